/-
  Contracts of functions that the law of FnExactGuessNext reaches, part 2.
-/
import Derived.Test.YtccooffhmjgjfaaGreatDoorVPGuessNext1
import Derived.Test.YtccooffhmjgjfaaGreatDoorVLe
import Derived.Test.YtccooffhmjgjfaaGreatDoorRows
import Derived.Test.YtccooffhmjgjfaaGreatDoorCards
import Derived.Test.YtccooffhmjgjfaaGreatDoorTie
import Derived.LaidMore
import Derived.Lay
import Derived.SevenTiedAt
import Derived.WalkKit
import Derived.ProofKit
import Derived.OpenShut
namespace Go.Proofs.YtccooffhmjgjfaaGreatDoor.fnExactGuessNext
open Go.Proofs.YtccooffhmjgjfaaGreatDoor
open Go.D
set_option maxRecDepth 100000
set_option maxHeartbeats 2000000
set_option linter.unusedVariables false
set_option linter.unusedSimpArgs false
theorem k48_121 : fheldPage.ok Tryz.prog 48 := Fct.o [1,2,4,10,16,22,28,34,40,46,52,1000010,1000016,1000022,1000028,1000034,1000040,1000046,1000052] E121ok Tryz.func48 (by
  rintro ⟨(x : SPage), (k : Int), _⟩ hp
  refine ho (.ob (fheldPolicy.pre (x.policy, k, ())) <|
 .lt (Int × PUnit) (fheldPolicy.fn (x.policy, k, ())) fun z2 =>
 .br (decide (z2.fst < (0 : Int)))
  (.leaf (mkR fheldPage.rs ((-1 : Int), ())) [] [])
  (.ob (fheldTokenS.pre (x.queue, z2.fst, ())) <|
   .lt (Int × PUnit) (fheldTokenS.fn (x.queue, z2.fst, ())) fun z3 =>
   .br (decide (z3.fst < (0 : Int)))
    (.leaf (mkR fheldPage.rs ((-1 : Int), ())) [] [])
    (.ob (fheldBuilder.pre (x.builder, z3.fst, ())) <|
     .lt (Int × PUnit) (fheldBuilder.fn (x.builder, z3.fst, ())) fun z4 =>
     .br (decide (z4.fst < (0 : Int)))
      (.leaf (mkR fheldPage.rs ((-1 : Int), ())) [] [])
      (.ob (fheldSlotS.pre (x.slots, z4.fst, ())) <|
       .lt (Int × PUnit) (fheldSlotS.fn (x.slots, z4.fst, ())) fun z5 =>
       .br (decide (z5.fst < (0 : Int)))
        (.leaf (mkR fheldPage.rs ((-1 : Int), ())) [] [])
        (.ob (fheldModuleS.pre (x.mods, z5.fst, ())) <|
         .lt (Int × PUnit) (fheldModuleS.fn (x.mods, z5.fst, ())) fun z6 =>
         .br (decide (z6.fst < (0 : Int)))
          (.leaf (mkR fheldPage.rs ((-1 : Int), ())) [] [])
          (.ob (fheldAddrS.pre (x.entries, z6.fst, ())) <|
           .lt (Int × PUnit) (fheldAddrS.fn (x.entries, z6.fst, ())) fun z7 =>
           .br (decide (z7.fst < (0 : Int)))
            (.leaf (mkR fheldPage.rs ((-1 : Int), ())) [] [])
            (.ob (fheldAddrS.pre (x.ran, z7.fst, ())) <|
             .lt (Int × PUnit) (fheldAddrS.fn (x.ran, z7.fst, ())) fun z8 =>
             .br (decide (z8.fst < (0 : Int)))
              (.leaf (mkR fheldPage.rs ((-1 : Int), ())) [] [])
              (.ob (fheldStringS.pre (x.log, z8.fst, ())) <|
               .lt (Int × PUnit) (fheldStringS.fn (x.log, z8.fst, ())) fun z9 =>
               .br (decide (z9.fst < (0 : Int)))
                (.leaf (mkR fheldPage.rs ((-1 : Int), ())) [] [])
                (.leaf (mkR fheldPage.rs (z9.fst, ())) [] []))))))))) ?_
  refine ob_d ?_ <| lt_i (br_i (fun h2 => Fct.leafY ?_) (fun h2 => ob_d ?_ <| lt_i (br_i (fun h4 => Fct.leafY ?_) (fun h4 => ob_d ?_ <| lt_i (br_i (fun h6 => Fct.leafY ?_) (fun h6 => ob_d ?_ <| lt_i (br_i (fun h8 => Fct.leafY ?_) (fun h8 => ob_d ?_ <| lt_i (br_i (fun h10 => Fct.leafY ?_) (fun h10 => ob_d ?_ <| lt_i (br_i (fun h12 => Fct.leafY ?_) (fun h12 => ob_d ?_ <| lt_i (br_i (fun h14 => Fct.leafY ?_) (fun h14 => ob_d ?_ <| lt_i (br_i (fun h16 => Fct.leafY ?_) (fun h16 => Fct.leafY ?_))))))))))))))))
  all_goals
   have hp1 : 0 ≤ k := hp.1
   have hp2 : (mvPage x k).2 ≤ 4000000000000000000 := hp.2.1
   have heq : (mvPage x k).1 = x := hp.2.2
   clear hp
   try have q1 := congrArg (fun z : SPage => z.policy.scripts) heq
   try have q2 := congrArg (fun z : SPage => z.policy.styles) heq
   try have q3 := congrArg (fun z : SPage => z.policy.images) heq
   try have q4 := congrArg (fun z : SPage => z.queue) heq
   try have q5 := congrArg (fun z : SPage => z.builder.nodes) heq
   try have q6 := congrArg (fun z : SPage => z.builder.open_) heq
   try have q7 := congrArg (fun z : SPage => z.slots) heq
   try have q8 := congrArg (fun z : SPage => z.mods) heq
   try have q9 := congrArg (fun z : SPage => z.entries) heq
   try have q10 := congrArg (fun z : SPage => z.ran) heq
   try have q11 := congrArg (fun z : SPage => z.log) heq
  all_goals obtain ⟨E, hE⟩ : ∃ E, E = (mvPage x k).2 := ⟨_, rfl⟩
  all_goals have hE2 := hE
  all_goals simp only [mvPage] at hp2 hE2 q1 q2 q3 q4 q5 q6 q7 q8 q9 q10 q11
  all_goals
   clear heq
   try have m1 := mkStringS_mono x.policy.scripts (k)
   try generalize hr1 : markL mkString x.policy.scripts (k) = r1 at *
   try have m2 := mkStringS_mono x.policy.styles (r1.2)
   try generalize hr2 : markL mkString x.policy.styles (r1.2) = r2 at *
   try have m3 := mkStringS_mono x.policy.images (r2.2)
   try generalize hr3 : markL mkString x.policy.images (r2.2) = r3 at *
   try have m4 := mkTokenS_mono x.queue (r3.2)
   try generalize hr4 : markL mkToken x.queue (r3.2) = r4 at *
   try have m5 := mkNodeS_mono x.builder.nodes (r4.2)
   try generalize hr5 : markL mkNode x.builder.nodes (r4.2) = r5 at *
   try have m6 := mkIntS_mono x.builder.open_ (r5.2)
   try generalize hr6 : markL mkInt x.builder.open_ (r5.2) = r6 at *
   try have m7 := mkSlotS_mono x.slots (r6.2)
   try generalize hr7 : markL mkSlot x.slots (r6.2) = r7 at *
   try have m8 := mkModuleS_mono x.mods (r7.2)
   try generalize hr8 : markL mkModule x.mods (r7.2) = r8 at *
   try have m9 := mkAddrS_mono x.entries (r8.2)
   try generalize hr9 : markL mkAddr x.entries (r8.2) = r9 at *
   try have m10 := mkAddrS_mono x.ran (r9.2)
   try generalize hr10 : markL mkAddr x.ran (r9.2) = r10 at *
   try have m11 := mkStringS_mono x.log (r10.2)
   try generalize hr11 : markL mkString x.log (r10.2) = r11 at *
  all_goals simp (disch := omega) only [fheldAddrS, fheldIntS, fheldModuleS, fheldNodeS, fheldSlotS, fheldStringS, fheldTokenS, fheldBuilder, mvBuilder, fheldPolicy, mvPolicy, hr1, hr2, hr3, hr4, hr5, hr6, hr7, hr8, hr9, hr10, hr11, decide_eq_true_eq, decide_eq_false_iff_not, Int.not_lt] at *
  all_goals try simp only [q1, q2, q3, q4, q5, q6, q7, q8, q9, q10, q11]
  all_goals first | trivial | omega | (exfalso; omega) | (refine ⟨?_, ?_, ?_⟩ <;> first | omega | assumption) | skip
  all_goals first | (show (_, ()) = ((mvPage x k).2, ()); rw [← hE, Prod.mk.injEq]; exact ⟨by omega, rfl⟩) | skip)
def E122 := E121.add 48 fheldPage
theorem E122ok : EOk Tryz.prog E122 := E121ok.add k48_121
theorem k64_122 : fszGuess.ok Tryz.prog 64 := Fct.o [1,2,4,10,16,1000010,1000016] E122ok Tryz.func64 (by
  rintro ⟨(x : SGuess), (n : Int), _⟩ hp
  refine ho (.cl fszAddr (x.to, n, ()) fun z2 => .br (decide (z2.1 < 0)) (.lf fszGuess ((-1 : Int), ())) (.cl fszResponse (x.response, z2.1, ()) fun z3 => .br (decide (z3.1 < 0)) (.lf fszGuess ((-1 : Int), ())) (.lf fszGuess (z3.1, ())))) ?_
  refine cl_i ?_ fun o1 => (br_i (fun h2 => lfY ?_) (fun h2 => cl_i ?_ fun o3 => (br_i (fun h4 => lfY ?_) (fun h4 => lfY ?_))))
  all_goals try simp only [fszAddr, fszGuess, fszResponse, std, Nat.reduceAdd, Sh.good, Sh.fc, enc, List.forall_mem_cons, List.not_mem_nil, false_implies, implies_true, goodC, maxLen] at *
  all_goals grind [wrapId', lessen, szAddr, szGuess, szResponse])
def E123 := E122.add 64 fszGuess
theorem E123ok : EOk Tryz.prog E123 := E122ok.add k64_122
theorem k90_123 : ftoGuess.ok Tryz.prog 90 := Fct.o [1,2,3] E123ok Tryz.func90 (by
  rintro ⟨(x : SGuess), _⟩ hp
  refine ho (.cl ftoAddr (x.to, ()) fun z2 => .cl ftoResponse (x.response, ()) fun z3 => .lf ftoGuess (⟨z2.1, z3.1, x.used⟩, ())) ?_
  refine cl_i ?_ fun o1 => (cl_i ?_ fun o2 => (lfY ?_))
  all_goals try simp only [ftoAddr, ftoGuess, ftoResponse, std, Nat.reduceAdd] at *
  all_goals first | trivial | rfl | grind [szAddr, szGuess, szResponse])
def E124 := E123.add 90 ftoGuess
theorem E124ok : EOk Tryz.prog E124 := E123ok.add k90_123
theorem k122_124 : feqGuess.ok Tryz.prog 122 := Fct.o [2,3,4,10,16,21,1000010,1000016,1000021] E124ok Tryz.func122 (by
  rintro ⟨(x : SGuess), (y : SGuess), _⟩ hp
  refine ho (.cl feqAddr (x.to, y.to, ()) fun z2 => .br (!z2.1) (.lf feqGuess (false, ())) (.cl feqResponse (x.response, y.response, ()) fun z3 => .br (!z3.1) (.lf feqGuess (false, ())) (.br (!x.used == y.used) (.lf feqGuess (false, ())) (.lf feqGuess (true, ()))))) ?_
  refine cl_i trivial fun _ => (br_i (fun h1 => lfY ?_) (fun h1 => cl_i trivial fun _ => (br_i (fun h2 => lfY ?_) (fun h2 => br_i (fun h3 => lfY ?_) (fun h3 => lfY ?_)))))
  all_goals try simp only [feqAddr, feqGuess, feqResponse, std, Nat.reduceAdd] at *
  all_goals first | trivial | (cases x; cases y; simp_all; done) | (simp only [szAddr, szGuess, szResponse] at *; omega) | grind [szAddr, szGuess, szResponse])
def E125 := E124.add 122 feqGuess
theorem E125ok : EOk Tryz.prog E125 := E124ok.add k122_124
theorem k15_125 : fszGuessS.ok Tryz.prog 15 := Fct.of (S := fszGuessS) (L := fun ⟨l, n, _⟩ => fun | 5 => some (LszS .guess szGuess l n) | _ => none) (kp := [0,1,4,5,11,15,25,1000011,1000015,1000025]) E125ok Tryz.func15 (by kernel_rfl) (by kernel_rfl) (by
  rintro ⟨(l : List SGuess), (n : Int), _⟩ hp
  refine ho (.br (decide (wr (n - (↑l.length : Int)) < 0)) (.lf fszGuessS ((-1 : Int), ())) (lpx (LszS .guess szGuess l n) (wr (n - (↑l.length : Int)), ((0 : Int), ())) fun (y2 : Int × Int × PUnit) bk2 => .br (decide (y2.2.1 < (↑l.length : Int))) (.ob (inB y2.2.1 l.length) <| .cl fszGuess (l.getD y2.2.1.toNat default, y2.1, ()) fun z2 => .br (decide (z2.1 < 0)) (.lf fszGuessS ((-1 : Int), ())) (.ob (l = l) <| .ob (bk2 (z2.1, (w1 y2.2.1, ()))) <| .ok)) (.lf fszGuessS (y2.1, ())))) ?_
  refine br_i (fun h1 => lfY ?_) (fun h1 => lpx_i ?_ fun (y2 : Int × Int × PUnit) i2 => br_i (fun h3 => ob_i ?_ fun o4 => cl_i ?_ fun o5 => (br_i (fun h6 => lfY ?_) (fun h6 => ob_i rfl fun _ => ob_i ?_ fun o7 => trivial))) (fun h3 => lfY ?_))
  all_goals
   try simp only [std0] at *
   try simp only [LszS, fszGuess, fszGuessS, std, Nat.reduceAdd] at *
  · have := good_len hp.1; simp only [maxLen] at this; rw [wrapId (by omega)] at h1
    rw [lessenNeg (by simp only [szL]; omega)]
  · have := good_len hp.1; simp only [maxLen] at this
    rw [wrapId (by omega)] at h1 ⊢
    exact ⟨by omega, by omega, h1, by simp⟩
  · omega
  · exact ⟨good_getD hp.1 (by omega), by omega, by omega⟩
  · have hs := sum_take_le szGuess l (y2.2.1.toNat + 1)
    rw [sum_take szGuess (by omega)] at hs
    rw [lessen_lt (by omega)] at h6
    rw [lessenNeg (by simp only [szL]; omega)]
  · have hw : IntKind.i64.wrap (y2.2.1 + 1) = y2.2.1 + 1 := wrapId (by have := good_len hp.1; simp only [maxLen] at this; omega)
    have h7 : ¬ lessen y2.1 (szGuess (l.getD y2.2.1.toNat default)) < 0 := by omega
    rw [lessen_lt (by omega)] at h7
    rw [hw, toNat1 (by omega), sum_take szGuess (by omega), lessen_ge (by omega)]
    exact ⟨⟨by omega, by omega, by omega, by omega⟩, by omega⟩
  · have e : l.take y2.2.1.toNat = l := List.take_of_length_le (by omega)
    rw [e] at i2
    have hz : ((szL szGuess l : Nat) : Int) = l.length + (l.map szGuess).sum := by simp only [szL]; omega
    rw [lessen_ge (by omega)]
    show y2.1 = n - ((szL szGuess l : Nat) : Int)
    omega)
def E126 := E125.add 15 fszGuessS
theorem E126ok : EOk Tryz.prog E126 := E125ok.add k15_125
theorem k28_126 : ftoGuessS.ok Tryz.prog 28 := Fct.of (S := ftoGuessS) (L := fun ⟨l, _⟩ => fun | 3 => some (LtoS .guess l) | _ => none) (kp := [0,2,3,4,11,1000011]) E126ok Tryz.func28 (by kernel_rfl) (by kernel_rfl) (by
  rintro ⟨(l : List SGuess), _⟩ hp
  refine ho (.ob ((↑l.length : Int) = (↑l.length : Int) ∧ (0 : Int) ≤ (↑l.length : Int) ∧ (104 : Int) * (↑l.length : Int) ≤ 140737488355328 ∧ (↑l.length : Int) ≤ 140737488355328) <| lpx (LtoS .guess l) ((0 : Int), (List.replicate (↑l.length : Int).toNat default, ())) fun (y2 : Int × List SGuess × PUnit) bk2 => .br (decide (y2.1 < (↑l.length : Int))) (.ob (inB y2.1 l.length) <| .cl ftoGuess (l.getD y2.1.toNat default, ()) fun z2 => .ob (inB y2.1 y2.2.1.length) <| .ob (y2.1.toNat < y2.2.1.length) <| .lt (List SGuess) (y2.2.1.modify y2.1.toNat fun z => z2.1) fun z3 => .ob (l = l) <| .ob (bk2 (w1 y2.1, (z3, ()))) <| .ok) (.lf ftoGuessS (y2.2.1, ()))) ?_
  refine ob_i ?_ fun o1 => lpx_i ?_ fun (y2 : Int × List SGuess × PUnit) i2 => br_i (fun h3 => ob_i ?_ fun o4 => cl_i ?_ fun o5 => (ob_i ?_ fun o6 => ob_i ?_ fun o7 => lt_i (ob_i rfl fun _ => ob_i ?_ fun o8 => trivial))) (fun h3 => lfY ?_)
  all_goals try simp only [LtoS, ftoGuess, ftoGuessS, std, Nat.reduceAdd] at *
  · have := szL_len szGuess l; omega
  · exact ⟨by omega, by omega, by simp⟩
  · omega
  · have hs := sum_take_le szGuess l (y2.1.toNat + 1)
    rw [sum_take szGuess (by omega)] at hs
    simp only [szL] at hp; omega
  · rw [i2.2.2]; simp; omega
  · rw [i2.2.2]; simp; omega
  · have hw : IntKind.i64.wrap (y2.1 + 1) = y2.1 + 1 := wrapId (by have := szL_len szGuess l; omega)
    rw [hw, toNat1 (by omega), i2.2.2]
    refine ⟨⟨by omega, by omega, ?_⟩, by omega⟩
    rw [show l.length - y2.1.toNat = (l.length - (y2.1.toNat + 1)) + 1 from by omega, List.replicate_succ, mod_at (by simp; omega), take_succ (by omega)]
    simp
  · have e : l.take y2.1.toNat = l := List.take_of_length_le (by omega)
    rw [i2.2.2, e]; simp; omega)
def E127 := E126.add 28 ftoGuessS
theorem E127ok : EOk Tryz.prog E127 := E126ok.add k28_126
theorem k41_127 : feqGuessS.ok Tryz.prog 41 := Fct.of (S := feqGuessS) (L := fun ⟨l, m, _⟩ => fun | 4 => some (LeqS .guess l m) | _ => none) (kp := [0,1,4,5,10,14,26,1000010,1000014,1000026]) E127ok Tryz.func41 (by kernel_rfl) (by kernel_rfl) (by
  rintro ⟨(l : List SGuess), (m : List SGuess), _⟩ hp
  refine ho (.br ((↑l.length : Int) != (↑m.length : Int)) (.lf feqGuessS (false, ())) (lpx (LeqS .guess l m) ((0 : Int), ()) fun (y2 : Int × PUnit) bk2 => .br (decide (y2.1 < (↑l.length : Int))) (.ob (inB y2.1 l.length) <| .ob (inB y2.1 m.length) <| .cl feqGuess (l.getD y2.1.toNat default, m.getD y2.1.toNat default, ()) fun z2 => .br (!z2.1) (.lf feqGuessS (false, ())) (.ob (l = l) <| .ob (m = m) <| .ob (bk2 (w1 y2.1, ())) <| .ok)) (.lf feqGuessS (true, ())))) ?_
  refine br_i (fun h1 => lfY ?_) (fun h1 => lpx_i ?_ fun (y2 : Int × PUnit) i2 => br_i (fun h3 => ob_i ?_ fun o4 => ob_i ?_ fun o5 => cl_i trivial fun _ => (br_i (fun h6 => lfY ?_) (fun h6 => ob_i rfl fun _ => ob_i rfl fun _ => ob_i ?_ fun o7 => trivial))) (fun h3 => lfY ?_))
  all_goals try simp only [LeqS, feqGuess, feqGuessS, std, Nat.reduceAdd] at *
  · rw [decide_eq_false]; rintro rfl; omega
  · exact ⟨by omega, by omega, by simp⟩
  · omega
  · omega
  · rw [decide_eq_false]; rintro rfl; exact absurd rfl h6
  · have hw : IntKind.i64.wrap (y2.1 + 1) = y2.1 + 1 := wrapId (by omega)
    rw [hw, toNat1 (by omega)]
    refine ⟨⟨by omega, by omega, ?_⟩, by omega⟩
    rw [take_succ (by omega), take_succ (by omega), i2.2.2, h6]
  · have e : l.take y2.1.toNat = l := List.take_of_length_le (by omega)
    have e2 : m.take y2.1.toNat = m := List.take_of_length_le (by omega)
    rw [decide_eq_true]; rw [← e, ← e2, i2.2.2])
def E128 := E127.add 41 feqGuessS
theorem E128ok : EOk Tryz.prog E128 := E127ok.add k41_127
theorem k46_128 : fmarkGuessS.ok Tryz.prog 46 := MS.of (S := fmarkGuessS) (L := fun l k => fun | 2 => some (LmkS .guess mkGuess l k) | _ => none) (kp := [0,1,4,5,9,1000009]) (kl := [0]) E128ok Tryz.func46 (by kernel_rfl) (by kernel_rfl) (by
  rintro (l : List SGuess) (k : Int) hp
  refine ho (lpx (LmkS .guess mkGuess l k) (k, ((0 : Int), (l, ()))) fun (y1 : Int × Int × List SGuess × PUnit) bk1 => .br (decide (y1.2.1 < (↑y1.2.2.1.length : Int))) (.cl fmarkText (y1.1, ()) fun z2 => .ob (inB y1.2.1 y1.2.2.1.length) <| .ob (y1.2.1.toNat < y1.2.2.1.length) <| .lt (List SGuess) (y1.2.2.1.modify y1.2.1.toNat fun z => (⟨(⟨z2.1, z.to.path⟩ : SAddr), z.response, z.used⟩ : SGuess)) fun z3 => .cl fmarkText (w1 y1.1, ()) fun z4 => .ob (inB y1.2.1 z3.length) <| .ob (y1.2.1.toNat < z3.length) <| .lt (List SGuess) (z3.modify y1.2.1.toNat fun z => (⟨(⟨z.to.host, z4.1⟩ : SAddr), z.response, z.used⟩ : SGuess)) fun z5 => .ob (inB y1.2.1 z5.length) <| .ob (y1.2.1.toNat < z5.length) <| .lt (List SGuess) (z5.modify y1.2.1.toNat fun z => (⟨z.to, (⟨w1 (w1 y1.1), z.response.kind, z.response.body, z.response.age, z.response.shares, z.response.policy⟩ : SResponse), z.used⟩ : SGuess)) fun z6 => .ob (inB y1.2.1 z6.length) <| .ob (y1.2.1.toNat < z6.length) <| .lt (List SGuess) (z6.modify y1.2.1.toNat fun z => (⟨z.to, (⟨z.response.status, w1 (w1 (w1 y1.1)), z.response.body, z.response.age, z.response.shares, z.response.policy⟩ : SResponse), z.used⟩ : SGuess)) fun z7 => .cl fmarkText (w1 (w1 (w1 (w1 y1.1))), ()) fun z8 => .ob (inB y1.2.1 z7.length) <| .ob (y1.2.1.toNat < z7.length) <| .lt (List SGuess) (z7.modify y1.2.1.toNat fun z => (⟨z.to, (⟨z.response.status, z.response.kind, z8.1, z.response.age, z.response.shares, z.response.policy⟩ : SResponse), z.used⟩ : SGuess)) fun z9 => .ob (inB y1.2.1 z9.length) <| .ob (y1.2.1.toNat < z9.length) <| .lt (List SGuess) (z9.modify y1.2.1.toNat fun z => (⟨z.to, (⟨z.response.status, z.response.kind, z.response.body, w1 (w1 (w1 (w1 (w1 y1.1)))), z.response.shares, z.response.policy⟩ : SResponse), z.used⟩ : SGuess)) fun z10 => .ob ((3 : Int) ≠ (0 : Int)) <| .ob (inB y1.2.1 z10.length) <| .ob (y1.2.1.toNat < z10.length) <| .lt (List SGuess) (z10.modify y1.2.1.toNat fun z => (⟨z.to, (⟨z.response.status, z.response.kind, z.response.body, z.response.age, (w1 (w1 (w1 (w1 (w1 (w1 y1.1)))))).tmod (3 : Int) == (0 : Int), z.response.policy⟩ : SResponse), z.used⟩ : SGuess)) fun z11 => .cl fmarkText (w1 (w1 (w1 (w1 (w1 (w1 (w1 y1.1)))))), ()) fun z12 => .ob (inB y1.2.1 z11.length) <| .ob (y1.2.1.toNat < z11.length) <| .lt (List SGuess) (z11.modify y1.2.1.toNat fun z => (⟨z.to, (⟨z.response.status, z.response.kind, z.response.body, z.response.age, z.response.shares, z12.1⟩ : SResponse), z.used⟩ : SGuess)) fun z13 => .ob ((3 : Int) ≠ (0 : Int)) <| .ob (inB y1.2.1 z13.length) <| .ob (y1.2.1.toNat < z13.length) <| .lt (List SGuess) (z13.modify y1.2.1.toNat fun z => (⟨z.to, z.response, (w1 (w1 (w1 (w1 (w1 (w1 (w1 (w1 y1.1)))))))).tmod (3 : Int) == (0 : Int)⟩ : SGuess)) fun z14 => .ob (Value.int IntKind.i64 0 = Value.int IntKind.i64 (0 : Int)) <| .ob (bk1 (w1 (w1 (w1 (w1 (w1 (w1 (w1 (w1 (w1 y1.1)))))))), (w1 y1.2.1, (z14, ())))) <| .ok) (.leaf (.one false [vi (y1.1)]) [] [(0, ⟨Ty.guess, y1.2.2.1⟩)])) ?_
  refine lpx_i ?_ fun (y1 : Int × Int × List SGuess × PUnit) i1 => br_i (fun h2 => cl_i ?_ fun o3 => (ob_i ?_ fun o4 => ob_i ?_ fun o5 => lt_i (cl_i ?_ fun o6 => (ob_i ?_ fun o7 => ob_i ?_ fun o8 => lt_i (ob_i ?_ fun o9 => ob_i ?_ fun o10 => lt_i (ob_i ?_ fun o11 => ob_i ?_ fun o12 => lt_i (cl_i ?_ fun o13 => (ob_i ?_ fun o14 => ob_i ?_ fun o15 => lt_i (ob_i ?_ fun o16 => ob_i ?_ fun o17 => lt_i (ob_i ?_ fun o18 => ob_i ?_ fun o19 => ob_i ?_ fun o20 => lt_i (cl_i ?_ fun o21 => (ob_i ?_ fun o22 => ob_i ?_ fun o23 => lt_i (ob_i ?_ fun o24 => ob_i ?_ fun o25 => ob_i ?_ fun o26 => lt_i (ob_i rfl fun _ => ob_i ?_ fun o27 => trivial)))))))))))))) (fun h2 => MS.leaf ?_)
  all_goals try simp only [stdW] at *
  · exact ⟨by simp, by simp, by simp [markL], by simp [markL]⟩
  all_goals
   have hp1 : 0 ≤ k := hp.1
   have hp2 : (markL mkGuess l k).2 ≤ 4000000000000000000 := hp.2
   have i3 : 0 ≤ y1.2.1 ∧ y1.2.1 ≤ l.length ∧ y1.1 = (markL mkGuess (l.take y1.2.1.toNat) k).2 ∧ y1.2.2.1 = (markL mkGuess (l.take y1.2.1.toNat) k).1 ++ l.drop y1.2.1.toNat := i1
   have hcnt := markL_cnt (f := mkGuess) (fun x k => by simp only [mkGuess]; omega) l k
   have hx : y1.2.2.1.length = l.length := by rw [i3.2.2.2, List.length_append, markL_len, List.length_take, List.length_drop]; omega
  all_goals simp only [decide_eq_true_eq, decide_eq_false_iff_not, hx] at h2
  all_goals
   clear i1
   try have hlt : y1.2.1.toNat < l.length := by omega
   try have ht := markL_take (f := mkGuess) hlt k
   try have hle := (markL_take_le mkGuess_mono l (y1.2.1.toNat + 1) k).2
   try have hl0 := (markL_take_le mkGuess_mono l y1.2.1.toNat k).1
   try rw [ht] at hle
   try rw [← i3.2.2.1] at hle hl0 ht
   try simp only [mkGuess] at hle
  all_goals first | decide | (simp only [List.length_modify, hx]; omega) | (refine ⟨?_, ?_⟩ <;> (try simp (discharger := omega) only [wrapId']) <;> omega) | skip
  · try clear o3 o4 o5
    simp (discharger := omega) only [wrapId', fmarkText]
    have hA : (markL mkGuess (l.take y1.2.1.toNat) k).1.length = y1.2.1.toNat := by rw [markL_len, List.length_take]; omega
    refine ⟨⟨by omega, by omega, ?_, ?_⟩, ?_⟩
    · rw [toNat1 (by omega), ht]
      first | done | (simp only [mkGuess]; done) | (simp only [mkGuess]; omega)
    · rw [toNat1 (by omega), ht, i3.2.2.2, drop_cons hlt]
      simp only [mod_at hA, mkGuess, Int.add_assoc, Int.reduceAdd, List.append_assoc, List.cons_append, List.nil_append]
    · omega
  · refine MS.leafL (t := .guess) (fn := fun l k => markL mkGuess l k) ?_
    have e1 : l.take y1.2.1.toNat = l := List.take_of_length_le (by omega)
    have e2 : l.drop y1.2.1.toNat = [] := List.drop_of_length_le (by omega)
    rw [i3.2.2.2, i3.2.2.1, e1, e2, List.append_nil])
def E129 := E128.addM 46 fmarkGuessS
theorem E129ok : EOk Tryz.prog E129 := E128ok.addM k46_128
theorem k51_129 : fheldGuessS.ok Tryz.prog 51 := Fct.of (S := fheldGuessS) (L := fun ⟨l, k, _⟩ => fun | 2 => some (LheS .guess mkGuess l k) | _ => none) (kp := [0,1,4,5,9,20,31,41,51,62,72,84,95,106,1000009,1000020,1000031,1000041,1000051,1000062,1000072,1000084,1000095,1000106]) E129ok Tryz.func51 (by kernel_rfl) (by kernel_rfl) (by
  rintro ⟨(l : List SGuess), (k : Int), _⟩ hp
  refine ho (lpx (LheS .guess mkGuess l k) (k, ((0 : Int), ())) fun (y1 : Int × Int × PUnit) bk1 => .br (decide (y1.2.1 < (↑l.length : Int))) (.ob (inB y1.2.1 l.length) <| .cl fmarkText (y1.1, ()) fun z2 => .br (!(l.getD y1.2.1.toNat default).to.host.toList == z2.1.toList) (.lf fheldGuessS ((-1 : Int), ())) (.ob (inB y1.2.1 l.length) <| .cl fmarkText (w1 y1.1, ()) fun z3 => .br (!(l.getD y1.2.1.toNat default).to.path.toList == z3.1.toList) (.lf fheldGuessS ((-1 : Int), ())) (.ob (inB y1.2.1 l.length) <| .br ((l.getD y1.2.1.toNat default).response.status != w1 (w1 y1.1)) (.lf fheldGuessS ((-1 : Int), ())) (.ob (inB y1.2.1 l.length) <| .br ((l.getD y1.2.1.toNat default).response.kind != w1 (w1 (w1 y1.1))) (.lf fheldGuessS ((-1 : Int), ())) (.ob (inB y1.2.1 l.length) <| .cl fmarkText (w1 (w1 (w1 (w1 y1.1))), ()) fun z4 => .br (!(l.getD y1.2.1.toNat default).response.body.toList == z4.1.toList) (.lf fheldGuessS ((-1 : Int), ())) (.ob (inB y1.2.1 l.length) <| .br ((l.getD y1.2.1.toNat default).response.age != w1 (w1 (w1 (w1 (w1 y1.1))))) (.lf fheldGuessS ((-1 : Int), ())) (.ob (inB y1.2.1 l.length) <| .ob ((3 : Int) ≠ (0 : Int)) <| .br (!(l.getD y1.2.1.toNat default).response.shares == ((w1 (w1 (w1 (w1 (w1 (w1 y1.1)))))).tmod (3 : Int) == (0 : Int))) (.lf fheldGuessS ((-1 : Int), ())) (.ob (inB y1.2.1 l.length) <| .cl fmarkText (w1 (w1 (w1 (w1 (w1 (w1 (w1 y1.1)))))), ()) fun z5 => .br (!(l.getD y1.2.1.toNat default).response.policy.toList == z5.1.toList) (.lf fheldGuessS ((-1 : Int), ())) (.ob (inB y1.2.1 l.length) <| .ob ((3 : Int) ≠ (0 : Int)) <| .br (!(l.getD y1.2.1.toNat default).used == ((w1 (w1 (w1 (w1 (w1 (w1 (w1 (w1 y1.1)))))))).tmod (3 : Int) == (0 : Int))) (.lf fheldGuessS ((-1 : Int), ())) (.ob (l = l) <| .ob (bk1 (w1 (w1 (w1 (w1 (w1 (w1 (w1 (w1 (w1 y1.1)))))))), (w1 y1.2.1, ()))) <| .ok)))))))))) (.lf fheldGuessS (y1.1, ()))) ?_
  refine lpx_i ?_ fun (y1 : Int × Int × PUnit) i1 => br_i (fun h2 => ob_i ?_ fun o3 => cl_i ?_ fun o4 => (br_i (fun h5 => lfY ?_) (fun h5 => ob_i ?_ fun o6 => cl_i ?_ fun o7 => (br_i (fun h8 => lfY ?_) (fun h8 => ob_i ?_ fun o9 => br_i (fun h10 => lfY ?_) (fun h10 => ob_i ?_ fun o11 => br_i (fun h12 => lfY ?_) (fun h12 => ob_i ?_ fun o13 => cl_i ?_ fun o14 => (br_i (fun h15 => lfY ?_) (fun h15 => ob_i ?_ fun o16 => br_i (fun h17 => lfY ?_) (fun h17 => ob_i ?_ fun o18 => ob_i ?_ fun o19 => br_i (fun h20 => lfY ?_) (fun h20 => ob_i ?_ fun o21 => cl_i ?_ fun o22 => (br_i (fun h23 => lfY ?_) (fun h23 => ob_i ?_ fun o24 => ob_i ?_ fun o25 => br_i (fun h26 => lfY ?_) (fun h26 => ob_i rfl fun _ => ob_i ?_ fun o27 => trivial)))))))))))))) (fun h2 => lfY ?_)
  all_goals try simp only [stdW] at *
  · exact ⟨by simp, by simp, by simp [markL]⟩
  all_goals
   have hp1 : 0 ≤ k := hp.1
   have hp2 : (markL mkGuess l k).2 ≤ 4000000000000000000 := hp.2.1
   have hp3 : (markL mkGuess l k).1 = l := hp.2.2
   have i3 : 0 ≤ y1.2.1 ∧ y1.2.1 ≤ l.length ∧ y1.1 = (markL mkGuess (l.take y1.2.1.toNat) k).2 := i1
   have hcnt := markL_cnt (f := mkGuess) (fun x k => by simp only [mkGuess]; omega) l k
  all_goals simp only [decide_eq_true_eq, decide_eq_false_iff_not] at h2
  all_goals
   clear i1 hp
   try have hlt : y1.2.1.toNat < l.length := by omega
   try have ht := markL_take (f := mkGuess) hlt k
   try have hle := (markL_take_le mkGuess_mono l (y1.2.1.toNat + 1) k).2
   try have hl0 := (markL_take_le mkGuess_mono l y1.2.1.toNat k).1
   try have heq := markL_held hp3 hlt
   try rw [ht] at hle
   try rw [← i3.2.2] at hle hl0 ht heq
   try simp only [mkGuess] at hle heq
  all_goals first | decide | omega | (refine ⟨?_, ?_⟩ <;> (try simp (discharger := omega) only [wrapId']) <;> omega) | skip
  all_goals try (exfalso; clear ht; generalize l.getD y1.2.1.toNat default = c at *; subst heq; simp (discharger := omega) [wrapId', fmarkText, Int.add_assoc] at *; done)
  · simp (discharger := omega) only [wrapId']
    refine ⟨⟨by omega, by omega, ?_⟩, ?_⟩
    · rw [toNat1 (by omega), ht]
      first | done | (simp only [mkGuess]; done) | (simp only [mkGuess]; omega)
    · omega
  · have e1 : l.take y1.2.1.toNat = l := List.take_of_length_le (by omega)
    rw [e1] at i3
    show (y1.1, ()) = ((markL mkGuess l k).2, ())
    rw [i3.2.2])
def E130 := E129.add 51 fheldGuessS
theorem E130ok : EOk Tryz.prog E130 := E129ok.add k51_129
theorem k63_130 : fszConn.ok Tryz.prog 63 := Fct.o [1,2,4,10,16,1000010,1000016] E130ok Tryz.func63 (by
  rintro ⟨(x : SConn), (n : Int), _⟩ hp
  refine ho (.cl fszAddr (x.to, n, ()) fun z2 => .br (decide (z2.1 < 0)) (.lf fszConn ((-1 : Int), ())) (.cl fszResponse (x.response, z2.1, ()) fun z3 => .br (decide (z3.1 < 0)) (.lf fszConn ((-1 : Int), ())) (.lf fszConn (z3.1, ())))) ?_
  refine cl_i ?_ fun o1 => (br_i (fun h2 => lfY ?_) (fun h2 => cl_i ?_ fun o3 => (br_i (fun h4 => lfY ?_) (fun h4 => lfY ?_))))
  all_goals try simp only [fszAddr, fszConn, fszResponse, std, Nat.reduceAdd, Sh.good, Sh.fc, enc, List.forall_mem_cons, List.not_mem_nil, false_implies, implies_true, goodC, maxLen] at *
  all_goals grind [wrapId', lessen, szAddr, szConn, szResponse])
def E131 := E130.add 63 fszConn
theorem E131ok : EOk Tryz.prog E131 := E130ok.add k63_130
theorem k89_131 : ftoConn.ok Tryz.prog 89 := Fct.o [1,2,3] E131ok Tryz.func89 (by
  rintro ⟨(x : SConn), _⟩ hp
  refine ho (.cl ftoAddr (x.to, ()) fun z2 => .cl ftoResponse (x.response, ()) fun z3 => .lf ftoConn (⟨z2.1, x.left, x.guess, z3.1⟩, ())) ?_
  refine cl_i ?_ fun o1 => (cl_i ?_ fun o2 => (lfY ?_))
  all_goals try simp only [ftoAddr, ftoConn, ftoResponse, std, Nat.reduceAdd] at *
  all_goals first | trivial | rfl | grind [szAddr, szConn, szResponse])
def E132 := E131.add 89 ftoConn
theorem E132ok : EOk Tryz.prog E132 := E131ok.add k89_131
theorem k121_132 : feqConn.ok Tryz.prog 121 := Fct.o [2,3,4,10,15,20,26,1000010,1000015,1000020,1000026] E132ok Tryz.func121 (by
  rintro ⟨(x : SConn), (y : SConn), _⟩ hp
  refine ho (.cl feqAddr (x.to, y.to, ()) fun z2 => .br (!z2.1) (.lf feqConn (false, ())) (.br (x.left != y.left) (.lf feqConn (false, ())) (.br (!x.guess == y.guess) (.lf feqConn (false, ())) (.cl feqResponse (x.response, y.response, ()) fun z3 => .br (!z3.1) (.lf feqConn (false, ())) (.lf feqConn (true, ())))))) ?_
  refine cl_i trivial fun _ => (br_i (fun h1 => lfY ?_) (fun h1 => br_i (fun h2 => lfY ?_) (fun h2 => br_i (fun h3 => lfY ?_) (fun h3 => cl_i trivial fun _ => (br_i (fun h4 => lfY ?_) (fun h4 => lfY ?_))))))
  all_goals try simp only [feqAddr, feqConn, feqResponse, std, Nat.reduceAdd] at *
  all_goals first | trivial | (cases x; cases y; simp_all; done) | (simp only [szAddr, szConn, szResponse] at *; omega) | grind [szAddr, szConn, szResponse])
def E133 := E132.add 121 feqConn
theorem E133ok : EOk Tryz.prog E133 := E132ok.add k121_132
theorem k14_133 : fszConnS.ok Tryz.prog 14 := Fct.of (S := fszConnS) (L := fun ⟨l, n, _⟩ => fun | 5 => some (LszS .conn szConn l n) | _ => none) (kp := [0,1,4,5,11,15,25,1000011,1000015,1000025]) E133ok Tryz.func14 (by kernel_rfl) (by kernel_rfl) (by
  rintro ⟨(l : List SConn), (n : Int), _⟩ hp
  refine ho (.br (decide (wr (n - (↑l.length : Int)) < 0)) (.lf fszConnS ((-1 : Int), ())) (lpx (LszS .conn szConn l n) (wr (n - (↑l.length : Int)), ((0 : Int), ())) fun (y2 : Int × Int × PUnit) bk2 => .br (decide (y2.2.1 < (↑l.length : Int))) (.ob (inB y2.2.1 l.length) <| .cl fszConn (l.getD y2.2.1.toNat default, y2.1, ()) fun z2 => .br (decide (z2.1 < 0)) (.lf fszConnS ((-1 : Int), ())) (.ob (l = l) <| .ob (bk2 (z2.1, (w1 y2.2.1, ()))) <| .ok)) (.lf fszConnS (y2.1, ())))) ?_
  refine br_i (fun h1 => lfY ?_) (fun h1 => lpx_i ?_ fun (y2 : Int × Int × PUnit) i2 => br_i (fun h3 => ob_i ?_ fun o4 => cl_i ?_ fun o5 => (br_i (fun h6 => lfY ?_) (fun h6 => ob_i rfl fun _ => ob_i ?_ fun o7 => trivial))) (fun h3 => lfY ?_))
  all_goals
   try simp only [std0] at *
   try simp only [LszS, fszConn, fszConnS, std, Nat.reduceAdd] at *
  · have := good_len hp.1; simp only [maxLen] at this; rw [wrapId (by omega)] at h1
    rw [lessenNeg (by simp only [szL]; omega)]
  · have := good_len hp.1; simp only [maxLen] at this
    rw [wrapId (by omega)] at h1 ⊢
    exact ⟨by omega, by omega, h1, by simp⟩
  · omega
  · exact ⟨good_getD hp.1 (by omega), by omega, by omega⟩
  · have hs := sum_take_le szConn l (y2.2.1.toNat + 1)
    rw [sum_take szConn (by omega)] at hs
    rw [lessen_lt (by omega)] at h6
    rw [lessenNeg (by simp only [szL]; omega)]
  · have hw : IntKind.i64.wrap (y2.2.1 + 1) = y2.2.1 + 1 := wrapId (by have := good_len hp.1; simp only [maxLen] at this; omega)
    have h7 : ¬ lessen y2.1 (szConn (l.getD y2.2.1.toNat default)) < 0 := by omega
    rw [lessen_lt (by omega)] at h7
    rw [hw, toNat1 (by omega), sum_take szConn (by omega), lessen_ge (by omega)]
    exact ⟨⟨by omega, by omega, by omega, by omega⟩, by omega⟩
  · have e : l.take y2.2.1.toNat = l := List.take_of_length_le (by omega)
    rw [e] at i2
    have hz : ((szL szConn l : Nat) : Int) = l.length + (l.map szConn).sum := by simp only [szL]; omega
    rw [lessen_ge (by omega)]
    show y2.1 = n - ((szL szConn l : Nat) : Int)
    omega)
def E134 := E133.add 14 fszConnS
theorem E134ok : EOk Tryz.prog E134 := E133ok.add k14_133
theorem k27_134 : ftoConnS.ok Tryz.prog 27 := Fct.of (S := ftoConnS) (L := fun ⟨l, _⟩ => fun | 3 => some (LtoS .conn l) | _ => none) (kp := [0,2,3,4,11,1000011]) E134ok Tryz.func27 (by kernel_rfl) (by kernel_rfl) (by
  rintro ⟨(l : List SConn), _⟩ hp
  refine ho (.ob ((↑l.length : Int) = (↑l.length : Int) ∧ (0 : Int) ≤ (↑l.length : Int) ∧ (112 : Int) * (↑l.length : Int) ≤ 140737488355328 ∧ (↑l.length : Int) ≤ 140737488355328) <| lpx (LtoS .conn l) ((0 : Int), (List.replicate (↑l.length : Int).toNat default, ())) fun (y2 : Int × List SConn × PUnit) bk2 => .br (decide (y2.1 < (↑l.length : Int))) (.ob (inB y2.1 l.length) <| .cl ftoConn (l.getD y2.1.toNat default, ()) fun z2 => .ob (inB y2.1 y2.2.1.length) <| .ob (y2.1.toNat < y2.2.1.length) <| .lt (List SConn) (y2.2.1.modify y2.1.toNat fun z => z2.1) fun z3 => .ob (l = l) <| .ob (bk2 (w1 y2.1, (z3, ()))) <| .ok) (.lf ftoConnS (y2.2.1, ()))) ?_
  refine ob_i ?_ fun o1 => lpx_i ?_ fun (y2 : Int × List SConn × PUnit) i2 => br_i (fun h3 => ob_i ?_ fun o4 => cl_i ?_ fun o5 => (ob_i ?_ fun o6 => ob_i ?_ fun o7 => lt_i (ob_i rfl fun _ => ob_i ?_ fun o8 => trivial))) (fun h3 => lfY ?_)
  all_goals try simp only [LtoS, ftoConn, ftoConnS, std, Nat.reduceAdd] at *
  · have := szL_len szConn l; omega
  · exact ⟨by omega, by omega, by simp⟩
  · omega
  · have hs := sum_take_le szConn l (y2.1.toNat + 1)
    rw [sum_take szConn (by omega)] at hs
    simp only [szL] at hp; omega
  · rw [i2.2.2]; simp; omega
  · rw [i2.2.2]; simp; omega
  · have hw : IntKind.i64.wrap (y2.1 + 1) = y2.1 + 1 := wrapId (by have := szL_len szConn l; omega)
    rw [hw, toNat1 (by omega), i2.2.2]
    refine ⟨⟨by omega, by omega, ?_⟩, by omega⟩
    rw [show l.length - y2.1.toNat = (l.length - (y2.1.toNat + 1)) + 1 from by omega, List.replicate_succ, mod_at (by simp; omega), take_succ (by omega)]
    simp
  · have e : l.take y2.1.toNat = l := List.take_of_length_le (by omega)
    rw [i2.2.2, e]; simp; omega)
def E135 := E134.add 27 ftoConnS
theorem E135ok : EOk Tryz.prog E135 := E134ok.add k27_134
theorem k40_135 : feqConnS.ok Tryz.prog 40 := Fct.of (S := feqConnS) (L := fun ⟨l, m, _⟩ => fun | 4 => some (LeqS .conn l m) | _ => none) (kp := [0,1,4,5,10,14,26,1000010,1000014,1000026]) E135ok Tryz.func40 (by kernel_rfl) (by kernel_rfl) (by
  rintro ⟨(l : List SConn), (m : List SConn), _⟩ hp
  refine ho (.br ((↑l.length : Int) != (↑m.length : Int)) (.lf feqConnS (false, ())) (lpx (LeqS .conn l m) ((0 : Int), ()) fun (y2 : Int × PUnit) bk2 => .br (decide (y2.1 < (↑l.length : Int))) (.ob (inB y2.1 l.length) <| .ob (inB y2.1 m.length) <| .cl feqConn (l.getD y2.1.toNat default, m.getD y2.1.toNat default, ()) fun z2 => .br (!z2.1) (.lf feqConnS (false, ())) (.ob (l = l) <| .ob (m = m) <| .ob (bk2 (w1 y2.1, ())) <| .ok)) (.lf feqConnS (true, ())))) ?_
  refine br_i (fun h1 => lfY ?_) (fun h1 => lpx_i ?_ fun (y2 : Int × PUnit) i2 => br_i (fun h3 => ob_i ?_ fun o4 => ob_i ?_ fun o5 => cl_i trivial fun _ => (br_i (fun h6 => lfY ?_) (fun h6 => ob_i rfl fun _ => ob_i rfl fun _ => ob_i ?_ fun o7 => trivial))) (fun h3 => lfY ?_))
  all_goals try simp only [LeqS, feqConn, feqConnS, std, Nat.reduceAdd] at *
  · rw [decide_eq_false]; rintro rfl; omega
  · exact ⟨by omega, by omega, by simp⟩
  · omega
  · omega
  · rw [decide_eq_false]; rintro rfl; exact absurd rfl h6
  · have hw : IntKind.i64.wrap (y2.1 + 1) = y2.1 + 1 := wrapId (by omega)
    rw [hw, toNat1 (by omega)]
    refine ⟨⟨by omega, by omega, ?_⟩, by omega⟩
    rw [take_succ (by omega), take_succ (by omega), i2.2.2, h6]
  · have e : l.take y2.1.toNat = l := List.take_of_length_le (by omega)
    have e2 : m.take y2.1.toNat = m := List.take_of_length_le (by omega)
    rw [decide_eq_true]; rw [← e, ← e2, i2.2.2])
def E136 := E135.add 40 feqConnS
theorem E136ok : EOk Tryz.prog E136 := E135ok.add k40_135
theorem k45_136 : fmarkConnS.ok Tryz.prog 45 := MS.of (S := fmarkConnS) (L := fun l k => fun | 2 => some (LmkS .conn mkConn l k) | _ => none) (kp := [0,1,4,5,9,1000009]) (kl := [0]) E136ok Tryz.func45 (by kernel_rfl) (by kernel_rfl) (by
  rintro (l : List SConn) (k : Int) hp
  refine ho (lpx (LmkS .conn mkConn l k) (k, ((0 : Int), (l, ()))) fun (y1 : Int × Int × List SConn × PUnit) bk1 => .br (decide (y1.2.1 < (↑y1.2.2.1.length : Int))) (.cl fmarkText (y1.1, ()) fun z2 => .ob (inB y1.2.1 y1.2.2.1.length) <| .ob (y1.2.1.toNat < y1.2.2.1.length) <| .lt (List SConn) (y1.2.2.1.modify y1.2.1.toNat fun z => (⟨(⟨z2.1, z.to.path⟩ : SAddr), z.left, z.guess, z.response⟩ : SConn)) fun z3 => .cl fmarkText (w1 y1.1, ()) fun z4 => .ob (inB y1.2.1 z3.length) <| .ob (y1.2.1.toNat < z3.length) <| .lt (List SConn) (z3.modify y1.2.1.toNat fun z => (⟨(⟨z.to.host, z4.1⟩ : SAddr), z.left, z.guess, z.response⟩ : SConn)) fun z5 => .ob (inB y1.2.1 z5.length) <| .ob (y1.2.1.toNat < z5.length) <| .lt (List SConn) (z5.modify y1.2.1.toNat fun z => (⟨z.to, w1 (w1 y1.1), z.guess, z.response⟩ : SConn)) fun z6 => .ob ((3 : Int) ≠ (0 : Int)) <| .ob (inB y1.2.1 z6.length) <| .ob (y1.2.1.toNat < z6.length) <| .lt (List SConn) (z6.modify y1.2.1.toNat fun z => (⟨z.to, z.left, (w1 (w1 (w1 y1.1))).tmod (3 : Int) == (0 : Int), z.response⟩ : SConn)) fun z7 => .ob (inB y1.2.1 z7.length) <| .ob (y1.2.1.toNat < z7.length) <| .lt (List SConn) (z7.modify y1.2.1.toNat fun z => (⟨z.to, z.left, z.guess, (⟨w1 (w1 (w1 (w1 y1.1))), z.response.kind, z.response.body, z.response.age, z.response.shares, z.response.policy⟩ : SResponse)⟩ : SConn)) fun z8 => .ob (inB y1.2.1 z8.length) <| .ob (y1.2.1.toNat < z8.length) <| .lt (List SConn) (z8.modify y1.2.1.toNat fun z => (⟨z.to, z.left, z.guess, (⟨z.response.status, w1 (w1 (w1 (w1 (w1 y1.1)))), z.response.body, z.response.age, z.response.shares, z.response.policy⟩ : SResponse)⟩ : SConn)) fun z9 => .cl fmarkText (w1 (w1 (w1 (w1 (w1 (w1 y1.1))))), ()) fun z10 => .ob (inB y1.2.1 z9.length) <| .ob (y1.2.1.toNat < z9.length) <| .lt (List SConn) (z9.modify y1.2.1.toNat fun z => (⟨z.to, z.left, z.guess, (⟨z.response.status, z.response.kind, z10.1, z.response.age, z.response.shares, z.response.policy⟩ : SResponse)⟩ : SConn)) fun z11 => .ob (inB y1.2.1 z11.length) <| .ob (y1.2.1.toNat < z11.length) <| .lt (List SConn) (z11.modify y1.2.1.toNat fun z => (⟨z.to, z.left, z.guess, (⟨z.response.status, z.response.kind, z.response.body, w1 (w1 (w1 (w1 (w1 (w1 (w1 y1.1)))))), z.response.shares, z.response.policy⟩ : SResponse)⟩ : SConn)) fun z12 => .ob ((3 : Int) ≠ (0 : Int)) <| .ob (inB y1.2.1 z12.length) <| .ob (y1.2.1.toNat < z12.length) <| .lt (List SConn) (z12.modify y1.2.1.toNat fun z => (⟨z.to, z.left, z.guess, (⟨z.response.status, z.response.kind, z.response.body, z.response.age, (w1 (w1 (w1 (w1 (w1 (w1 (w1 (w1 y1.1)))))))).tmod (3 : Int) == (0 : Int), z.response.policy⟩ : SResponse)⟩ : SConn)) fun z13 => .cl fmarkText (w1 (w1 (w1 (w1 (w1 (w1 (w1 (w1 (w1 y1.1)))))))), ()) fun z14 => .ob (inB y1.2.1 z13.length) <| .ob (y1.2.1.toNat < z13.length) <| .lt (List SConn) (z13.modify y1.2.1.toNat fun z => (⟨z.to, z.left, z.guess, (⟨z.response.status, z.response.kind, z.response.body, z.response.age, z.response.shares, z14.1⟩ : SResponse)⟩ : SConn)) fun z15 => .ob (Value.int IntKind.i64 0 = Value.int IntKind.i64 (0 : Int)) <| .ob (bk1 (w1 (w1 (w1 (w1 (w1 (w1 (w1 (w1 (w1 (w1 y1.1))))))))), (w1 y1.2.1, (z15, ())))) <| .ok) (.leaf (.one false [vi (y1.1)]) [] [(0, ⟨Ty.conn, y1.2.2.1⟩)])) ?_
  refine lpx_i ?_ fun (y1 : Int × Int × List SConn × PUnit) i1 => br_i (fun h2 => cl_i ?_ fun o3 => (ob_i ?_ fun o4 => ob_i ?_ fun o5 => lt_i (cl_i ?_ fun o6 => (ob_i ?_ fun o7 => ob_i ?_ fun o8 => lt_i (ob_i ?_ fun o9 => ob_i ?_ fun o10 => lt_i (ob_i ?_ fun o11 => ob_i ?_ fun o12 => ob_i ?_ fun o13 => lt_i (ob_i ?_ fun o14 => ob_i ?_ fun o15 => lt_i (ob_i ?_ fun o16 => ob_i ?_ fun o17 => lt_i (cl_i ?_ fun o18 => (ob_i ?_ fun o19 => ob_i ?_ fun o20 => lt_i (ob_i ?_ fun o21 => ob_i ?_ fun o22 => lt_i (ob_i ?_ fun o23 => ob_i ?_ fun o24 => ob_i ?_ fun o25 => lt_i (cl_i ?_ fun o26 => (ob_i ?_ fun o27 => ob_i ?_ fun o28 => lt_i (ob_i rfl fun _ => ob_i ?_ fun o29 => trivial))))))))))))))) (fun h2 => MS.leaf ?_)
  all_goals try simp only [stdW] at *
  · exact ⟨by simp, by simp, by simp [markL], by simp [markL]⟩
  all_goals
   have hp1 : 0 ≤ k := hp.1
   have hp2 : (markL mkConn l k).2 ≤ 4000000000000000000 := hp.2
   have i3 : 0 ≤ y1.2.1 ∧ y1.2.1 ≤ l.length ∧ y1.1 = (markL mkConn (l.take y1.2.1.toNat) k).2 ∧ y1.2.2.1 = (markL mkConn (l.take y1.2.1.toNat) k).1 ++ l.drop y1.2.1.toNat := i1
   have hcnt := markL_cnt (f := mkConn) (fun x k => by simp only [mkConn]; omega) l k
   have hx : y1.2.2.1.length = l.length := by rw [i3.2.2.2, List.length_append, markL_len, List.length_take, List.length_drop]; omega
  all_goals simp only [decide_eq_true_eq, decide_eq_false_iff_not, hx] at h2
  all_goals
   clear i1
   try have hlt : y1.2.1.toNat < l.length := by omega
   try have ht := markL_take (f := mkConn) hlt k
   try have hle := (markL_take_le mkConn_mono l (y1.2.1.toNat + 1) k).2
   try have hl0 := (markL_take_le mkConn_mono l y1.2.1.toNat k).1
   try rw [ht] at hle
   try rw [← i3.2.2.1] at hle hl0 ht
   try simp only [mkConn] at hle
  all_goals first | decide | (simp only [List.length_modify, hx]; omega) | (refine ⟨?_, ?_⟩ <;> (try simp (discharger := omega) only [wrapId']) <;> omega) | skip
  · try clear o3 o4 o5
    simp (discharger := omega) only [wrapId', fmarkText]
    have hA : (markL mkConn (l.take y1.2.1.toNat) k).1.length = y1.2.1.toNat := by rw [markL_len, List.length_take]; omega
    refine ⟨⟨by omega, by omega, ?_, ?_⟩, ?_⟩
    · rw [toNat1 (by omega), ht]
      first | done | (simp only [mkConn]; done) | (simp only [mkConn]; omega)
    · rw [toNat1 (by omega), ht, i3.2.2.2, drop_cons hlt]
      simp only [mod_at hA, mkConn, Int.add_assoc, Int.reduceAdd, List.append_assoc, List.cons_append, List.nil_append]
    · omega
  · refine MS.leafL (t := .conn) (fn := fun l k => markL mkConn l k) ?_
    have e1 : l.take y1.2.1.toNat = l := List.take_of_length_le (by omega)
    have e2 : l.drop y1.2.1.toNat = [] := List.drop_of_length_le (by omega)
    rw [i3.2.2.2, i3.2.2.1, e1, e2, List.append_nil])
def E137 := E136.addM 45 fmarkConnS
theorem E137ok : EOk Tryz.prog E137 := E136ok.addM k45_136
theorem k50_137 : fheldConnS.ok Tryz.prog 50 := Fct.of (S := fheldConnS) (L := fun ⟨l, k, _⟩ => fun | 2 => some (LheS .conn mkConn l k) | _ => none) (kp := [0,1,4,5,9,20,31,40,51,61,71,82,92,104,115,1000009,1000020,1000031,1000040,1000051,1000061,1000071,1000082,1000092,1000104,1000115]) E137ok Tryz.func50 (by kernel_rfl) (by kernel_rfl) (by
  rintro ⟨(l : List SConn), (k : Int), _⟩ hp
  refine ho (lpx (LheS .conn mkConn l k) (k, ((0 : Int), ())) fun (y1 : Int × Int × PUnit) bk1 => .br (decide (y1.2.1 < (↑l.length : Int))) (.ob (inB y1.2.1 l.length) <| .cl fmarkText (y1.1, ()) fun z2 => .br (!(l.getD y1.2.1.toNat default).to.host.toList == z2.1.toList) (.lf fheldConnS ((-1 : Int), ())) (.ob (inB y1.2.1 l.length) <| .cl fmarkText (w1 y1.1, ()) fun z3 => .br (!(l.getD y1.2.1.toNat default).to.path.toList == z3.1.toList) (.lf fheldConnS ((-1 : Int), ())) (.ob (inB y1.2.1 l.length) <| .br ((l.getD y1.2.1.toNat default).left != w1 (w1 y1.1)) (.lf fheldConnS ((-1 : Int), ())) (.ob (inB y1.2.1 l.length) <| .ob ((3 : Int) ≠ (0 : Int)) <| .br (!(l.getD y1.2.1.toNat default).guess == ((w1 (w1 (w1 y1.1))).tmod (3 : Int) == (0 : Int))) (.lf fheldConnS ((-1 : Int), ())) (.ob (inB y1.2.1 l.length) <| .br ((l.getD y1.2.1.toNat default).response.status != w1 (w1 (w1 (w1 y1.1)))) (.lf fheldConnS ((-1 : Int), ())) (.ob (inB y1.2.1 l.length) <| .br ((l.getD y1.2.1.toNat default).response.kind != w1 (w1 (w1 (w1 (w1 y1.1))))) (.lf fheldConnS ((-1 : Int), ())) (.ob (inB y1.2.1 l.length) <| .cl fmarkText (w1 (w1 (w1 (w1 (w1 (w1 y1.1))))), ()) fun z4 => .br (!(l.getD y1.2.1.toNat default).response.body.toList == z4.1.toList) (.lf fheldConnS ((-1 : Int), ())) (.ob (inB y1.2.1 l.length) <| .br ((l.getD y1.2.1.toNat default).response.age != w1 (w1 (w1 (w1 (w1 (w1 (w1 y1.1))))))) (.lf fheldConnS ((-1 : Int), ())) (.ob (inB y1.2.1 l.length) <| .ob ((3 : Int) ≠ (0 : Int)) <| .br (!(l.getD y1.2.1.toNat default).response.shares == ((w1 (w1 (w1 (w1 (w1 (w1 (w1 (w1 y1.1)))))))).tmod (3 : Int) == (0 : Int))) (.lf fheldConnS ((-1 : Int), ())) (.ob (inB y1.2.1 l.length) <| .cl fmarkText (w1 (w1 (w1 (w1 (w1 (w1 (w1 (w1 (w1 y1.1)))))))), ()) fun z5 => .br (!(l.getD y1.2.1.toNat default).response.policy.toList == z5.1.toList) (.lf fheldConnS ((-1 : Int), ())) (.ob (l = l) <| .ob (bk1 (w1 (w1 (w1 (w1 (w1 (w1 (w1 (w1 (w1 (w1 y1.1))))))))), (w1 y1.2.1, ()))) <| .ok))))))))))) (.lf fheldConnS (y1.1, ()))) ?_
  refine lpx_i ?_ fun (y1 : Int × Int × PUnit) i1 => br_i (fun h2 => ob_i ?_ fun o3 => cl_i ?_ fun o4 => (br_i (fun h5 => lfY ?_) (fun h5 => ob_i ?_ fun o6 => cl_i ?_ fun o7 => (br_i (fun h8 => lfY ?_) (fun h8 => ob_i ?_ fun o9 => br_i (fun h10 => lfY ?_) (fun h10 => ob_i ?_ fun o11 => ob_i ?_ fun o12 => br_i (fun h13 => lfY ?_) (fun h13 => ob_i ?_ fun o14 => br_i (fun h15 => lfY ?_) (fun h15 => ob_i ?_ fun o16 => br_i (fun h17 => lfY ?_) (fun h17 => ob_i ?_ fun o18 => cl_i ?_ fun o19 => (br_i (fun h20 => lfY ?_) (fun h20 => ob_i ?_ fun o21 => br_i (fun h22 => lfY ?_) (fun h22 => ob_i ?_ fun o23 => ob_i ?_ fun o24 => br_i (fun h25 => lfY ?_) (fun h25 => ob_i ?_ fun o26 => cl_i ?_ fun o27 => (br_i (fun h28 => lfY ?_) (fun h28 => ob_i rfl fun _ => ob_i ?_ fun o29 => trivial))))))))))))))) (fun h2 => lfY ?_)
  all_goals try simp only [stdW] at *
  · exact ⟨by simp, by simp, by simp [markL]⟩
  all_goals
   have hp1 : 0 ≤ k := hp.1
   have hp2 : (markL mkConn l k).2 ≤ 4000000000000000000 := hp.2.1
   have hp3 : (markL mkConn l k).1 = l := hp.2.2
   have i3 : 0 ≤ y1.2.1 ∧ y1.2.1 ≤ l.length ∧ y1.1 = (markL mkConn (l.take y1.2.1.toNat) k).2 := i1
   have hcnt := markL_cnt (f := mkConn) (fun x k => by simp only [mkConn]; omega) l k
  all_goals simp only [decide_eq_true_eq, decide_eq_false_iff_not] at h2
  all_goals
   clear i1 hp
   try have hlt : y1.2.1.toNat < l.length := by omega
   try have ht := markL_take (f := mkConn) hlt k
   try have hle := (markL_take_le mkConn_mono l (y1.2.1.toNat + 1) k).2
   try have hl0 := (markL_take_le mkConn_mono l y1.2.1.toNat k).1
   try have heq := markL_held hp3 hlt
   try rw [ht] at hle
   try rw [← i3.2.2] at hle hl0 ht heq
   try simp only [mkConn] at hle heq
  all_goals first | decide | omega | (refine ⟨?_, ?_⟩ <;> (try simp (discharger := omega) only [wrapId']) <;> omega) | skip
  all_goals try (exfalso; clear ht; generalize l.getD y1.2.1.toNat default = c at *; subst heq; simp (discharger := omega) [wrapId', fmarkText, Int.add_assoc] at *; done)
  · simp (discharger := omega) only [wrapId']
    refine ⟨⟨by omega, by omega, ?_⟩, ?_⟩
    · rw [toNat1 (by omega), ht]
      first | done | (simp only [mkConn]; done) | (simp only [mkConn]; omega)
    · omega
  · have e1 : l.take y1.2.1.toNat = l := List.take_of_length_le (by omega)
    rw [e1] at i3
    show (y1.1, ()) = ((markL mkConn l k).2, ())
    rw [i3.2.2])
def E138 := E137.add 50 fheldConnS
theorem E138ok : EOk Tryz.prog E138 := E137ok.add k50_137
theorem k4_138 : fszLoader.ok Tryz.prog 4 := Fct.o [1,2,4,10,16,22,28,34,1000010,1000016,1000022,1000028,1000034] E138ok Tryz.func4 (by
  rintro ⟨(x : SLoader), (n : Int), _⟩ hp
  refine ho (.cl fszNet (x.net, n, ()) fun z2 => .br (decide (z2.1 < 0)) (.lf fszLoader ((-1 : Int), ())) (.cl fszPage (x.page, z2.1, ()) fun z3 => .br (decide (z3.1 < 0)) (.lf fszLoader ((-1 : Int), ())) (.cl fszStringS (x.parts, z3.1, ()) fun z4 => .br (decide (z4.1 < 0)) (.lf fszLoader ((-1 : Int), ())) (.cl fszConnS (x.conns, z4.1, ()) fun z5 => .br (decide (z5.1 < 0)) (.lf fszLoader ((-1 : Int), ())) (.cl fszGuessS (x.guesses, z5.1, ()) fun z6 => .br (decide (z6.1 < 0)) (.lf fszLoader ((-1 : Int), ())) (.lf fszLoader (z6.1, ()))))))) ?_
  refine cl_i ?_ fun o1 => (br_i (fun h2 => lfY ?_) (fun h2 => cl_i ?_ fun o3 => (br_i (fun h4 => lfY ?_) (fun h4 => cl_i ?_ fun o5 => (br_i (fun h6 => lfY ?_) (fun h6 => cl_i ?_ fun o7 => (br_i (fun h8 => lfY ?_) (fun h8 => cl_i ?_ fun o9 => (br_i (fun h10 => lfY ?_) (fun h10 => lfY ?_))))))))))
  all_goals try simp only [fszConnS, fszGuessS, fszLoader, fszNet, fszPage, fszStringS, std, Nat.reduceAdd, Sh.good, Sh.fc, enc, List.forall_mem_cons, List.not_mem_nil, false_implies, implies_true, goodC, maxLen] at *
  all_goals grind [wrapId', lessen, szL, szLoader, szNet, szPage])
def E139 := E138.add 4 fszLoader
theorem E139ok : EOk Tryz.prog E139 := E138ok.add k4_138
theorem k6_139 : ftoLoader.ok Tryz.prog 6 := Fct.o [1,2,3] E139ok Tryz.func6 (by
  rintro ⟨(x : SLoader), _⟩ hp
  refine ho (.cl ftoNet (x.net, ()) fun z2 => .cl ftoPage (x.page, ()) fun z3 => .cl ftoStringS (x.parts, ()) fun z4 => .cl ftoConnS (x.conns, ()) fun z5 => .cl ftoGuessS (x.guesses, ()) fun z6 => .lf ftoLoader (⟨z2.1, z3.1, z4.1, z5.1, z6.1⟩, ())) ?_
  refine cl_i ?_ fun o1 => (cl_i ?_ fun o2 => (cl_i ?_ fun o3 => (cl_i ?_ fun o4 => (cl_i ?_ fun o5 => (lfY ?_)))))
  all_goals try simp only [ftoConnS, ftoGuessS, ftoLoader, ftoNet, ftoPage, ftoStringS, std, Nat.reduceAdd] at *
  all_goals first | trivial | rfl | grind [szL, szLoader, szNet, szPage])
def E140 := E139.add 6 ftoLoader
theorem E140ok : EOk Tryz.prog E140 := E139ok.add k6_139
theorem k8_140 : feqLoader.ok Tryz.prog 8 := Fct.o [2,3,4,10,16,22,28,34,1000010,1000016,1000022,1000028,1000034] E140ok Tryz.func8 (by
  rintro ⟨(x : SLoader), (y : SLoader), _⟩ hp
  refine ho (.cl feqNet (x.net, y.net, ()) fun z2 => .br (!z2.1) (.lf feqLoader (false, ())) (.cl feqPage (x.page, y.page, ()) fun z3 => .br (!z3.1) (.lf feqLoader (false, ())) (.cl feqStringS (x.parts, y.parts, ()) fun z4 => .br (!z4.1) (.lf feqLoader (false, ())) (.cl feqConnS (x.conns, y.conns, ()) fun z5 => .br (!z5.1) (.lf feqLoader (false, ())) (.cl feqGuessS (x.guesses, y.guesses, ()) fun z6 => .br (!z6.1) (.lf feqLoader (false, ())) (.lf feqLoader (true, ()))))))) ?_
  refine cl_i ?_ fun o1 => (br_i (fun h2 => lfY ?_) (fun h2 => cl_i ?_ fun o3 => (br_i (fun h4 => lfY ?_) (fun h4 => cl_i ?_ fun o5 => (br_i (fun h6 => lfY ?_) (fun h6 => cl_i ?_ fun o7 => (br_i (fun h8 => lfY ?_) (fun h8 => cl_i ?_ fun o9 => (br_i (fun h10 => lfY ?_) (fun h10 => lfY ?_))))))))))
  all_goals try simp only [feqConnS, feqGuessS, feqLoader, feqNet, feqPage, feqStringS, std, Nat.reduceAdd] at *
  all_goals first | trivial | (cases x; cases y; simp_all; done) | (simp only [szL, szLoader, szNet, szPage] at *; omega) | grind [szL, szLoader, szNet, szPage])
def E141 := E140.add 8 feqLoader
theorem E141ok : EOk Tryz.prog E141 := E140ok.add k8_140
theorem k9_141 : fmarkLoader.ok Tryz.prog 9 := MS.of (S := fmarkLoader) (L := fun _ _ _ => none) (kp := [1,2,4]) (kl := [0,1,2,7,8,9,12,14,15,16,17,18,23,24,26,27,28]) E141ok Tryz.func9 (by kernel_rfl) (by kernel_rfl) (by
  rintro (x : SLoader) (k : Int) hp
  refine ho (.ob (fmarkNet.pre x.net k) <| .lt _ (fmarkNet.fn x.net k) fun z2 => .ob (fmarkPage.pre x.page z2.2) <| .lt _ (fmarkPage.fn x.page z2.2) fun z3 => .ob (fmarkStringS.pre x.parts z3.2) <| .lt _ (fmarkStringS.fn x.parts z3.2) fun z4 => .ob (fmarkConnS.pre x.conns z4.2) <| .lt _ (fmarkConnS.fn x.conns z4.2) fun z5 => .ob (fmarkGuessS.pre x.guesses z5.2) <| .lt _ (fmarkGuessS.fn x.guesses z5.2) fun z6 => .leaf (.one false [vi (z6.2)]) [] [(0, ⟨Ty.server, z2.1.servers⟩), (1, ⟨Ty.entry, z2.1.cache.entries⟩), (2, ⟨Ty.sent, z2.1.log⟩), (7, ⟨Ty.str, z3.1.policy.scripts⟩), (8, ⟨Ty.str, z3.1.policy.styles⟩), (9, ⟨Ty.str, z3.1.policy.images⟩), (12, ⟨Ty.token, z3.1.queue⟩), (14, ⟨Ty.node, z3.1.builder.nodes⟩), (15, ⟨Ty.int, z3.1.builder.open_⟩), (16, ⟨Ty.slot, z3.1.slots⟩), (17, ⟨Ty.module, z3.1.mods⟩), (18, ⟨Ty.addr, z3.1.entries⟩), (23, ⟨Ty.addr, z3.1.ran⟩), (24, ⟨Ty.str, z3.1.log⟩), (26, ⟨Ty.str, z4.1⟩), (27, ⟨Ty.conn, z5.1⟩), (28, ⟨Ty.guess, z6.1⟩)]) ?_
  refine ob_d ?_ <| lt_i (ob_d ?_ <| lt_i (ob_d ?_ <| lt_i (ob_d ?_ <| lt_i (ob_d ?_ <| lt_i (MS.leaf ?_)))))
  all_goals
   have hp1 : 0 ≤ k := hp.1
   have hp2 : (mvLoader x k).2 ≤ 4000000000000000000 := hp.2
   clear hp
  all_goals simp only [mvLoader] at hp2
  all_goals
   try have m1 := mkServerS_mono x.net.servers (k)
   try generalize hr1 : markL mkServer x.net.servers (k) = r1 at *
   try have m2 := mkEntryS_mono x.net.cache.entries (r1.2)
   try generalize hr2 : markL mkEntry x.net.cache.entries (r1.2) = r2 at *
   try have m3 := mkSentS_mono x.net.log (r2.2)
   try generalize hr3 : markL mkSent x.net.log (r2.2) = r3 at *
   try have m4 := mkStringS_mono x.page.policy.scripts (r3.2)
   try generalize hr4 : markL mkString x.page.policy.scripts (r3.2) = r4 at *
   try have m5 := mkStringS_mono x.page.policy.styles (r4.2)
   try generalize hr5 : markL mkString x.page.policy.styles (r4.2) = r5 at *
   try have m6 := mkStringS_mono x.page.policy.images (r5.2)
   try generalize hr6 : markL mkString x.page.policy.images (r5.2) = r6 at *
   try have m7 := mkTokenS_mono x.page.queue (r6.2)
   try generalize hr7 : markL mkToken x.page.queue (r6.2) = r7 at *
   try have m8 := mkNodeS_mono x.page.builder.nodes (r7.2)
   try generalize hr8 : markL mkNode x.page.builder.nodes (r7.2) = r8 at *
   try have m9 := mkIntS_mono x.page.builder.open_ (r8.2)
   try generalize hr9 : markL mkInt x.page.builder.open_ (r8.2) = r9 at *
   try have m10 := mkSlotS_mono x.page.slots (r9.2)
   try generalize hr10 : markL mkSlot x.page.slots (r9.2) = r10 at *
   try have m11 := mkModuleS_mono x.page.mods (r10.2)
   try generalize hr11 : markL mkModule x.page.mods (r10.2) = r11 at *
   try have m12 := mkAddrS_mono x.page.entries (r11.2)
   try generalize hr12 : markL mkAddr x.page.entries (r11.2) = r12 at *
   try have m13 := mkAddrS_mono x.page.ran (r12.2)
   try generalize hr13 : markL mkAddr x.page.ran (r12.2) = r13 at *
   try have m14 := mkStringS_mono x.page.log (r13.2)
   try generalize hr14 : markL mkString x.page.log (r13.2) = r14 at *
   try have m15 := mkStringS_mono x.parts (r14.2)
   try generalize hr15 : markL mkString x.parts (r14.2) = r15 at *
   try have m16 := mkConnS_mono x.conns (r15.2)
   try generalize hr16 : markL mkConn x.conns (r15.2) = r16 at *
   try have m17 := mkGuessS_mono x.guesses (r16.2)
   try generalize hr17 : markL mkGuess x.guesses (r16.2) = r17 at *
  all_goals simp (disch := omega) only [fmarkAddrS, fmarkConnS, fmarkEntryS, fmarkGuessS, fmarkIntS, fmarkModuleS, fmarkNodeS, fmarkSentS, fmarkServerS, fmarkSlotS, fmarkStringS, fmarkTokenS, fmarkBuilder, mvBuilder, fmarkCache, mvCache, fmarkNet, mvNet, fmarkPage, mvPage, fmarkPolicy, mvPolicy, hr1, hr2, hr3, hr4, hr5, hr6, hr7, hr8, hr9, hr10, hr11, hr12, hr13, hr14, hr15, hr16, hr17]
  all_goals first | trivial | omega | (refine ⟨?_, ?_⟩ <;> omega) | skip
  refine MS.leaf ?_
  simp only [fmarkLoader, mvLoader, hr1, hr2, hr3, hr4, hr5, hr6, hr7, hr8, hr9, hr10, hr11, hr12, hr13, hr14, hr15, hr16, hr17]
  exact ⟨⟨rfl, rfl, trivial⟩, trivial, rfl⟩)
def E142 := E141.addM 9 fmarkLoader
theorem E142ok : EOk Tryz.prog E142 := E141ok.addM k9_141
theorem k10_142 : fheldLoader.ok Tryz.prog 10 := Fct.o [1,2,4,10,16,22,28,34,1000010,1000016,1000022,1000028,1000034] E142ok Tryz.func10 (by
  rintro ⟨(x : SLoader), (k : Int), _⟩ hp
  refine ho (.ob (fheldNet.pre (x.net, k, ())) <|
 .lt (Int × PUnit) (fheldNet.fn (x.net, k, ())) fun z2 =>
 .br (decide (z2.fst < (0 : Int)))
  (.leaf (mkR fheldLoader.rs ((-1 : Int), ())) [] [])
  (.ob (fheldPage.pre (x.page, z2.fst, ())) <|
   .lt (Int × PUnit) (fheldPage.fn (x.page, z2.fst, ())) fun z3 =>
   .br (decide (z3.fst < (0 : Int)))
    (.leaf (mkR fheldLoader.rs ((-1 : Int), ())) [] [])
    (.ob (fheldStringS.pre (x.parts, z3.fst, ())) <|
     .lt (Int × PUnit) (fheldStringS.fn (x.parts, z3.fst, ())) fun z4 =>
     .br (decide (z4.fst < (0 : Int)))
      (.leaf (mkR fheldLoader.rs ((-1 : Int), ())) [] [])
      (.ob (fheldConnS.pre (x.conns, z4.fst, ())) <|
       .lt (Int × PUnit) (fheldConnS.fn (x.conns, z4.fst, ())) fun z5 =>
       .br (decide (z5.fst < (0 : Int)))
        (.leaf (mkR fheldLoader.rs ((-1 : Int), ())) [] [])
        (.ob (fheldGuessS.pre (x.guesses, z5.fst, ())) <|
         .lt (Int × PUnit) (fheldGuessS.fn (x.guesses, z5.fst, ())) fun z6 =>
         .br (decide (z6.fst < (0 : Int)))
          (.leaf (mkR fheldLoader.rs ((-1 : Int), ())) [] [])
          (.leaf (mkR fheldLoader.rs (z6.fst, ())) [] [])))))) ?_
  refine ob_d ?_ <| lt_i (br_i (fun h2 => Fct.leafY ?_) (fun h2 => ob_d ?_ <| lt_i (br_i (fun h4 => Fct.leafY ?_) (fun h4 => ob_d ?_ <| lt_i (br_i (fun h6 => Fct.leafY ?_) (fun h6 => ob_d ?_ <| lt_i (br_i (fun h8 => Fct.leafY ?_) (fun h8 => ob_d ?_ <| lt_i (br_i (fun h10 => Fct.leafY ?_) (fun h10 => Fct.leafY ?_))))))))))
  all_goals
   have hp1 : 0 ≤ k := hp.1
   have hp2 : (mvLoader x k).2 ≤ 4000000000000000000 := hp.2.1
   have heq : (mvLoader x k).1 = x := hp.2.2
   clear hp
   try have q1 := congrArg (fun z : SLoader => z.net.servers) heq
   try have q2 := congrArg (fun z : SLoader => z.net.cache.entries) heq
   try have q3 := congrArg (fun z : SLoader => z.net.log) heq
   try have q4 := congrArg (fun z : SLoader => z.page.policy.scripts) heq
   try have q5 := congrArg (fun z : SLoader => z.page.policy.styles) heq
   try have q6 := congrArg (fun z : SLoader => z.page.policy.images) heq
   try have q7 := congrArg (fun z : SLoader => z.page.queue) heq
   try have q8 := congrArg (fun z : SLoader => z.page.builder.nodes) heq
   try have q9 := congrArg (fun z : SLoader => z.page.builder.open_) heq
   try have q10 := congrArg (fun z : SLoader => z.page.slots) heq
   try have q11 := congrArg (fun z : SLoader => z.page.mods) heq
   try have q12 := congrArg (fun z : SLoader => z.page.entries) heq
   try have q13 := congrArg (fun z : SLoader => z.page.ran) heq
   try have q14 := congrArg (fun z : SLoader => z.page.log) heq
   try have q15 := congrArg (fun z : SLoader => z.parts) heq
   try have q16 := congrArg (fun z : SLoader => z.conns) heq
   try have q17 := congrArg (fun z : SLoader => z.guesses) heq
  all_goals obtain ⟨E, hE⟩ : ∃ E, E = (mvLoader x k).2 := ⟨_, rfl⟩
  all_goals have hE2 := hE
  all_goals simp only [mvLoader] at hp2 hE2 q1 q2 q3 q4 q5 q6 q7 q8 q9 q10 q11 q12 q13 q14 q15 q16 q17
  all_goals
   clear heq
   try have m1 := mkServerS_mono x.net.servers (k)
   try generalize hr1 : markL mkServer x.net.servers (k) = r1 at *
   try have m2 := mkEntryS_mono x.net.cache.entries (r1.2)
   try generalize hr2 : markL mkEntry x.net.cache.entries (r1.2) = r2 at *
   try have m3 := mkSentS_mono x.net.log (r2.2)
   try generalize hr3 : markL mkSent x.net.log (r2.2) = r3 at *
   try have m4 := mkStringS_mono x.page.policy.scripts (r3.2)
   try generalize hr4 : markL mkString x.page.policy.scripts (r3.2) = r4 at *
   try have m5 := mkStringS_mono x.page.policy.styles (r4.2)
   try generalize hr5 : markL mkString x.page.policy.styles (r4.2) = r5 at *
   try have m6 := mkStringS_mono x.page.policy.images (r5.2)
   try generalize hr6 : markL mkString x.page.policy.images (r5.2) = r6 at *
   try have m7 := mkTokenS_mono x.page.queue (r6.2)
   try generalize hr7 : markL mkToken x.page.queue (r6.2) = r7 at *
   try have m8 := mkNodeS_mono x.page.builder.nodes (r7.2)
   try generalize hr8 : markL mkNode x.page.builder.nodes (r7.2) = r8 at *
   try have m9 := mkIntS_mono x.page.builder.open_ (r8.2)
   try generalize hr9 : markL mkInt x.page.builder.open_ (r8.2) = r9 at *
   try have m10 := mkSlotS_mono x.page.slots (r9.2)
   try generalize hr10 : markL mkSlot x.page.slots (r9.2) = r10 at *
   try have m11 := mkModuleS_mono x.page.mods (r10.2)
   try generalize hr11 : markL mkModule x.page.mods (r10.2) = r11 at *
   try have m12 := mkAddrS_mono x.page.entries (r11.2)
   try generalize hr12 : markL mkAddr x.page.entries (r11.2) = r12 at *
   try have m13 := mkAddrS_mono x.page.ran (r12.2)
   try generalize hr13 : markL mkAddr x.page.ran (r12.2) = r13 at *
   try have m14 := mkStringS_mono x.page.log (r13.2)
   try generalize hr14 : markL mkString x.page.log (r13.2) = r14 at *
   try have m15 := mkStringS_mono x.parts (r14.2)
   try generalize hr15 : markL mkString x.parts (r14.2) = r15 at *
   try have m16 := mkConnS_mono x.conns (r15.2)
   try generalize hr16 : markL mkConn x.conns (r15.2) = r16 at *
   try have m17 := mkGuessS_mono x.guesses (r16.2)
   try generalize hr17 : markL mkGuess x.guesses (r16.2) = r17 at *
  all_goals simp (disch := omega) only [fheldAddrS, fheldConnS, fheldEntryS, fheldGuessS, fheldIntS, fheldModuleS, fheldNodeS, fheldSentS, fheldServerS, fheldSlotS, fheldStringS, fheldTokenS, fheldBuilder, mvBuilder, fheldCache, mvCache, fheldNet, mvNet, fheldPage, mvPage, fheldPolicy, mvPolicy, hr1, hr2, hr3, hr4, hr5, hr6, hr7, hr8, hr9, hr10, hr11, hr12, hr13, hr14, hr15, hr16, hr17, decide_eq_true_eq, decide_eq_false_iff_not, Int.not_lt] at *
  all_goals try simp only [q1, q2, q3, q4, q5, q6, q7, q8, q9, q10, q11, q12, q13, q14, q15, q16, q17]
  all_goals first | trivial | omega | (exfalso; omega) | (refine ⟨?_, ?_, ?_⟩ <;> first | omega | assumption) | skip
  all_goals first | (show (_, ()) = ((mvLoader x k).2, ()); rw [← hE, Prod.mk.injEq]; exact ⟨by omega, rfl⟩) | skip)
def E143 := E142.add 10 fheldLoader
theorem E143ok : EOk Tryz.prog E143 := E142ok.add k10_142
def countGuess : List SConn → Nat
  | [] => 0
  | c :: l => countGuess l + (if c.guess then 1 else 0)
theorem countGuess_le (l : List SConn) : countGuess l ≤ l.length := by
  induction l with
  | nil => simp [countGuess]
  | cons d l ih => simp only [countGuess, List.length_cons]; split <;> omega
def fCount : Fct := ⟨[.v (.sl .conn)], [.el .int], fun (x_ : (List SConn) × Unit) => x_.1.length ≤ 1048576, fun (x_ : (List SConn) × Unit) => ((countGuess x_.1 : Int), ())⟩
abbrev W_spec_CountGuessConns_fCount_3 (l : (List SConn)) : LInv := ⟨[⟨.s, 3, true, .el .int⟩, ⟨.s, 4, true, .el .int⟩], fun _ (x_ : Int × Int × Unit) => 0 ≤ x_.2.1 ∧ x_.2.1 ≤ l.length ∧ 0 ≤ x_.1 ∧ x_.1 ≤ x_.2.1 ∧ x_.1 + countGuess (l.drop x_.2.1.toNat) = countGuess l, fun (x_ : Int × Int × Unit) => l.length - x_.2.1.toNat⟩
theorem k18_143 : fCount.ok Tryz.prog 18 := Fct.of (S := fCount) (L := fun ⟨l, _⟩ => fun | 3 => some (W_spec_CountGuessConns_fCount_3 l) | _ => none) (kp := [0,2,3,4,8,15,1000008,1000015]) E143ok Tryz.func18 (by kernel_rfl) (by kernel_rfl) (by
  rintro ⟨(l : List SConn), _⟩ hp
  refine ho (lpx (W_spec_CountGuessConns_fCount_3 l) ((0 : Int), ((0 : Int), ())) fun (y1 : Int × Int × PUnit) bk1 => .br (decide (y1.2.1 < (↑l.length : Int))) (.ob (inB y1.2.1 l.length) <| .br ((l.getD y1.2.1.toNat default).guess) (.ob (l = l) <| .ob (Value.int IntKind.i64 0 = Value.int IntKind.i64 (0 : Int)) <| .ob (bk1 (w1 y1.1, (w1 y1.2.1, ()))) <| .ok) (.ob (l = l) <| .ob (Value.int IntKind.i64 0 = Value.int IntKind.i64 (0 : Int)) <| .ob (bk1 (y1.1, (w1 y1.2.1, ()))) <| .ok)) (.lf fCount (y1.1, ()))) ?_
  refine lpx_i ?_ fun (y1 : Int × Int × PUnit) i1 => br_i (fun h2 => ob_i ?_ fun o3 => br_i (fun h4 => ob_i rfl fun _ => ob_i rfl fun _ => ob_i ?_ fun o5 => trivial) (fun h4 => ob_i rfl fun _ => ob_i rfl fun _ => ob_i ?_ fun o6 => trivial)) (fun h2 => lfY ?_)
  all_goals
   try simp only [W_spec_CountGuessConns_fCount_3, fCount, std, Nat.reduceAdd, countGuess] at *
   try simp (disch := omega) only [wrapId', toNat1] at *
   try simp (disch := omega) only [if_pos, if_neg]
  all_goals first | trivial | omega | grind [wrapId', toNat1, drop_cons, drop_end, good_len, maxLen, countGuess])
def E144 := E143.add 18 fCount
theorem E144ok : EOk Tryz.prog E144 := E143ok.add k18_143
abbrev W_impl_CountGuessConns_fCount_3 (l : (List SConn)) : LInv := ⟨[⟨.s, 3, true, .el .int⟩, ⟨.s, 8, true, .el .int⟩], fun _ (x_ : Int × Int × Unit) => 0 ≤ x_.2.1 ∧ x_.2.1 ≤ l.length ∧ 0 ≤ x_.1 ∧ x_.1 ≤ x_.2.1 ∧ x_.1 + countGuess (l.drop x_.2.1.toNat) = countGuess l, fun (x_ : Int × Int × Unit) => l.length - x_.2.1.toNat⟩
theorem k31_144 : fCount.ok Tryz.prog 31 := Fct.of (S := fCount) (L := fun ⟨l, _⟩ => fun | 3 => some (W_impl_CountGuessConns_fCount_3 l) | _ => none) (kp := [0,2,3,5,6,7,8,9,13,1000009,1000013]) E144ok Tryz.func31 (by kernel_rfl) (by kernel_rfl) (by
  rintro ⟨(l : List SConn), _⟩ hp
  refine ho (lpx (W_impl_CountGuessConns_fCount_3 l) ((0 : Int), ((0 : Int), ())) fun (y1 : Int × Int × PUnit) bk1 => .br (decide (y1.2.1 < (↑l.length : Int))) (.ob (inB y1.2.1 l.length) <| .br ((l.getD y1.2.1.toNat default).guess) (.ob (l = l) <| .ob (Value.int IntKind.i64 0 = Value.int IntKind.i64 (0 : Int)) <| .ob (l = l) <| .ob (Value.int IntKind.i64 (↑l.length : Int) = Value.int IntKind.i64 (↑l.length : Int)) <| .ob (bk1 (w1 y1.1, (w1 y1.2.1, ()))) <| .ok) (.ob (l = l) <| .ob (Value.int IntKind.i64 0 = Value.int IntKind.i64 (0 : Int)) <| .ob (l = l) <| .ob (Value.int IntKind.i64 (↑l.length : Int) = Value.int IntKind.i64 (↑l.length : Int)) <| .ob (bk1 (y1.1, (w1 y1.2.1, ()))) <| .ok)) (.lf fCount (y1.1, ()))) ?_
  refine lpx_i ?_ fun (y1 : Int × Int × PUnit) i1 => br_i (fun h2 => ob_i ?_ fun o3 => br_i (fun h4 => ob_i rfl fun _ => ob_i rfl fun _ => ob_i rfl fun _ => ob_i rfl fun _ => ob_i ?_ fun o5 => trivial) (fun h4 => ob_i rfl fun _ => ob_i rfl fun _ => ob_i rfl fun _ => ob_i rfl fun _ => ob_i ?_ fun o6 => trivial)) (fun h2 => lfY ?_)
  all_goals
   try simp only [W_impl_CountGuessConns_fCount_3, fCount, std, Nat.reduceAdd, countGuess] at *
   try simp (disch := omega) only [wrapId', toNat1] at *
   try simp (disch := omega) only [if_pos, if_neg]
  all_goals first | trivial | omega | grind [wrapId', toNat1, drop_cons, drop_end, good_len, maxLen, countGuess])
def E145 := E144.add 31 fCount
theorem E145ok : EOk Tryz.prog E145 := E144ok.add k31_144
def findConn (a : SAddr) : List SConn → Int → Int
  | [], _ => -1
  | c :: l, i => if c.to = a then i else findConn a l (i + 1)
theorem findConn_at {a : SAddr} {l : List SConn} {i : Nat} {z : Int} (h : i < l.length) : findConn a (l.drop i) z = if (l.getD i default).to = a then z else findConn a (l.drop (i + 1)) (z + 1) := by rw [drop_cons h]; rfl
theorem findConn_end {a : SAddr} {l : List SConn} {i : Nat} {z : Int} (h : l.length ≤ i) : findConn a (l.drop i) z = -1 := by rw [List.drop_of_length_le h]; rfl
theorem addrEq (x y : SAddr) : (x.host == y.host && (x.path == y.path && true)) = decide (x = y) := beqAddr x y
def fFind : Fct := ⟨[aL .conn, aE .addr], [rI], fun (x : List SConn × SAddr × Unit) => x.1.length ≤ 1048576, fun x => (findConn x.2.1 x.1 0, ())⟩
abbrev Lfind (l : List SConn) (a : SAddr) : LInv := ⟨[⟨.s, 5, true, .el .int⟩, ⟨.b, 3, true, .el .addr⟩], fun _ (x : Int × SAddr × Unit) => 0 ≤ x.1 ∧ x.1 ≤ l.length ∧ x.2.1 = a ∧ findConn a l 0 = findConn a (l.drop x.1.toNat) x.1, fun (x : Int × SAddr × Unit) => l.length - x.1.toNat⟩
theorem k21_145 : fFind.ok Tryz.prog 21 := Fct.of (S := fFind) (L := fun ⟨l, a, _⟩ => fun | 2 => some (Lfind l a) | _ => none) (kp := [0,3,4,5,9,18,1000009,1000018]) E145ok Tryz.func21 (by kernel_rfl) (by kernel_rfl) (by
  rintro ⟨(l : List SConn), (a : SAddr), _⟩ hp
  refine ho (lpx (Lfind l a) ((0 : Int), (a, ())) fun (y1 : Int × SAddr × PUnit) bk1 => .br (decide (y1.1 < (↑l.length : Int))) (.ob (inB y1.1 l.length) <| .br ((l.getD y1.1.toNat default).to.host == y1.2.1.host && ((l.getD y1.1.toNat default).to.path == y1.2.1.path && true)) (.lf fFind (y1.1, ())) (.ob (l = l) <| .ob (bk1 (w1 y1.1, (y1.2.1, ()))) <| .ok)) (.lf fFind ((-1 : Int), ()))) ?_
  refine lpx_i ?_ fun (y1 : Int × SAddr × PUnit) i1 => br_i (fun h2 => ob_i ?_ fun o3 => br_i (fun h4 => lfY ?_) (fun h4 => ob_i rfl fun _ => ob_i ?_ fun o5 => trivial)) (fun h2 => lfY ?_)
  all_goals
   try simp only [Lfind, fFind, std, Nat.reduceAdd] at *
   try simp only [addrEq, decide_eq_true_eq, decide_eq_false_iff_not] at *
  · first | omega | exact ⟨by omega, by omega, by simp⟩
  · omega
  · rw [findConn_at (by omega), if_pos (h4.trans i1.2.2.1)] at i1
    exact i1.2.2.2.symm
  · rw [findConn_at (by omega), if_neg (fun h => h4 (h.trans i1.2.2.1.symm))] at i1
    have hn : l.length ≤ 1048576 := hp
    rw [wrapId (by omega), toNat1 (by omega)]
    exact ⟨⟨by omega, by omega, i1.2.2.1, i1.2.2.2⟩, by omega⟩
  · rw [findConn_end (by omega)] at i1
    exact i1.2.2.2.symm)
def E146 := E145.add 21 fFind
theorem E146ok : EOk Tryz.prog E146 := E145ok.add k21_145
def fFind1 : Fct := ⟨[aE .conn, .p (.el .addr)], [rB], fun _ => True, fun x => (decide (x.1.to = x.2.1), ())⟩
theorem k103_146 : fFind1.ok Tryz.prog 103 := Fct.o [1,2,3] E146ok Tryz.func103 (by
  rintro ⟨(c : SConn), (a : SAddr), _⟩ hp
  refine ho (.lf fFind1 (c.to.host == a.host && (c.to.path == a.path && true), ())) ?_
  refine lfY ?_
  show (_, ()) = (_, ())
  rw [addrEq])
def E147 := E146.add 103 fFind1
theorem E147ok : EOk Tryz.prog E147 := E146ok.add k103_146
def fIdxFind : Fct := ⟨[aL .conn, .c 103 [.el .addr]], [rI], fun (x : List SConn × (SAddr × Unit) × Unit) => x.1.length ≤ 1048576, fun x => (findConn x.2.1.1 x.1 0, ())⟩
abbrev Lidx (l : List SConn) (F : List SConn → Int → Int) : LInv := ⟨[⟨.s, 8, true, .el .int⟩], fun _ (x : Int × Unit) => 0 ≤ x.1 ∧ x.1 ≤ l.length ∧ F l 0 = F (l.drop x.1.toNat) x.1, fun (x : Int × Unit) => l.length - x.1.toNat⟩
abbrev Lidxf (l : List SConn) (a : SAddr × Unit) : LInv := Lidx l (findConn a.1)
theorem k102_147 : fIdxFind.ok Tryz.prog 102 := Fct.of (S := fIdxFind) (L := fun ⟨l, a, _⟩ => fun | 2 => some (Lidxf l a) | _ => none) (kp := [0,1,4,5,7,8,9,16,1000009,1000016]) E147ok Tryz.func102 (by kernel_rfl) (by kernel_rfl) (by
  rintro ⟨(l : List SConn), (a : SAddr × PUnit), _⟩ hp
  refine ho (lpx (Lidxf l a) ((0 : Int), ()) fun (y1 : Int × PUnit) bk1 => .br (decide (y1.1 < (↑l.length : Int))) (.ob (inB y1.1 l.length) <| .cl fFind1 (l.getD y1.1.toNat default, a.1, ()) fun z2 => .br (z2.1) (.lf fIdxFind (y1.1, ())) (.ob (l = l) <| .ob (enc Ty.addr a.1 = enc Ty.addr a.1) <| .ob (Value.int IntKind.i64 (↑l.length : Int) = Value.int IntKind.i64 (↑l.length : Int)) <| .ob (bk1 (w1 y1.1, ())) <| .ok)) (.lf fIdxFind ((-1 : Int), ()))) ?_
  refine lpx_i ?_ fun (y1 : Int × PUnit) i1 => br_i (fun h2 => ob_i ?_ fun o3 => cl_i trivial fun _ => (br_i (fun h4 => lfY ?_) (fun h4 => ob_i rfl fun _ => ob_i rfl fun _ => ob_i rfl fun _ => ob_i ?_ fun o5 => trivial))) (fun h2 => lfY ?_)
  all_goals
   try simp only [Lidxf, fFind1, fIdxFind, std, Nat.reduceAdd] at *
   try simp only [addrEq, decide_eq_true_eq, decide_eq_false_iff_not] at *
  · first | omega | exact ⟨by omega, by omega, by simp⟩
  · omega
  · rw [findConn_at (by omega), if_pos h4] at i1
    exact i1.2.2.symm
  · rw [findConn_at (by omega), if_neg h4] at i1
    have hn : l.length ≤ 1048576 := hp
    rw [wrapId (by omega), toNat1 (by omega)]
    exact ⟨⟨by omega, by omega, i1.2.2⟩, by omega⟩
  · rw [findConn_end (by omega)] at i1
    exact i1.2.2.symm)
def E148 := E147.add 102 fIdxFind
theorem E148ok : EOk Tryz.prog E148 := E147ok.add k102_147
theorem k34_148 : fFind.ok Tryz.prog 34 := Fct.o [0,3,4] E148ok Tryz.func34 (by
  rintro ⟨(l : List SConn), (a : SAddr), _⟩ hp
  refine ho (.cl fIdxFind (l, (a, ()), ()) fun z2 => .lf fFind (z2.1, ())) ?_
  refine cl_i ?_ fun o1 => (lfY ?_)
  all_goals try simp only [fFind, fIdxFind, std, Nat.reduceAdd] at *
  all_goals first | trivial | omega | (simp_all; done) | (simp_all; omega) | grind)
def E149 := E148.add 34 fFind
theorem E149ok : EOk Tryz.prog E149 := E148ok.add k34_148
def inRange (n lo hi : Int) : Bool := decide (lo ≤ n) && decide (n ≤ hi)
def fInRange : Fct := ⟨[aI, aI, aI], [rB], fun _ => True, fun (x : Int × Int × Int × Unit) => (inRange x.1 x.2.1 x.2.2.1, ())⟩
theorem k232_149 : fInRange.ok Tryz.prog 232 := Fct.o [0,1,2,6] E149ok Tryz.func232 (by
  rintro ⟨(n : Int), (lo : Int), (hi : Int), _⟩ hp
  refine ho (.br (decide (lo ≤ n)) (.lf fInRange (decide (n ≤ hi), ())) (.lf fInRange (false, ()))) ?_
  refine br_i (fun h1 => lfY ?_) (fun h1 => lfY ?_)
  all_goals try simp only [fInRange, std, Nat.reduceAdd, inRange] at *
  all_goals first | trivial | (simp_all; done) | (simp_all; omega) | grind)
def E150 := E149.add 232 fInRange
theorem E150ok : EOk Tryz.prog E150 := E149ok.add k232_149
theorem k219_150 : fInRange.ok Tryz.prog 219 := Fct.o [0,1,2,6] E150ok Tryz.func219 (by
  rintro ⟨(n : Int), (lo : Int), (hi : Int), _⟩ hp
  refine ho (.br (decide (n ≥ lo)) (.lf fInRange (decide (n ≤ hi), ())) (.lf fInRange (false, ()))) ?_
  refine br_i (fun h1 => lfY ?_) (fun h1 => lfY ?_)
  all_goals try simp only [fInRange, std, Nat.reduceAdd, inRange] at *
  all_goals first | trivial | (simp_all; done) | (simp_all; omega) | grind)
def E151 := E150.add 219 fInRange
theorem E151ok : EOk Tryz.prog E151 := E150ok.add k219_150
def fCopyConns : Fct := ⟨[aL .conn], [rL .conn], fun (x : List SConn × Unit) => x.1.length ≤ 1048576, fun (x : List SConn × Unit) => (x.1, ())⟩
theorem k93_151 : fCopyConns.ok Tryz.prog 93 := Fct.o [0,2] E151ok Tryz.func93 (by
  rintro ⟨(l : List SConn), _⟩ hp
  refine ho (.ob (True) <| .ob (Room (0 + List.length l) 112) <| .lf fCopyConns ([] ++ l, ())) ?_
  refine ob_i trivial fun _ => ob_i ?_ fun o1 => lfY ?_
  all_goals try simp only [fCopyConns, std, Nat.reduceAdd] at *
  all_goals first | trivial | omega | (simp_all; done) | (simp_all; omega) | grind)
def E152 := E151.add 93 fCopyConns
theorem E152ok : EOk Tryz.prog E152 := E151ok.add k93_151
def sizeResponse (x : SResponse) : Int := x.body.size + 20
def fSizeResponse : Fct := ⟨[aE .response], [rI], fun (x : SResponse × Unit) => x.1.body.size ≤ 1000000000000, fun (x : SResponse × Unit) => (sizeResponse x.1, ())⟩
theorem k77_152 : fSizeResponse.ok Tryz.prog 77 := Fct.o [1,2] E152ok Tryz.func77 (by
  rintro ⟨(x : SResponse), _⟩ hp
  refine ho (.lf fSizeResponse (wr ((↑x.body.size : Int) + 20), ())) ?_
  refine lfY ?_
  all_goals try simp only [fSizeResponse, std, Nat.reduceAdd, sizeResponse] at *
  rw [wrapId (by omega)])
def E153 := E152.add 77 fSizeResponse
theorem E153ok : EOk Tryz.prog E153 := E152ok.add k77_152
theorem k109_153 : fSizeResponse.ok Tryz.prog 109 := Fct.o [1,2] E153ok Tryz.func109 (by
  rintro ⟨(x : SResponse), _⟩ hp
  refine ho (.lf fSizeResponse (wr ((↑x.body.size : Int) + 20), ())) ?_
  refine lfY ?_
  all_goals try simp only [fSizeResponse, std, Nat.reduceAdd, sizeResponse] at *
  rw [wrapId (by omega)])
def E154 := E153.add 109 fSizeResponse
theorem E154ok : EOk Tryz.prog E154 := E153ok.add k109_153
def openConn (l : List SConn) (a : SAddr) (x : SResponse) (g : Bool) : List SConn × Bool := if (l.length : Int) ≥ 3 ∨ findConn a l 0 ≥ 0 then (l, false) else (l ++ [⟨a, sizeResponse x, g, x⟩], true)
def fOpen : Fct := ⟨[aL .conn, aE .addr, aE .response, aB], [rL .conn, rB], fun (x : List SConn × SAddr × SResponse × Bool × Unit) => x.1.length ≤ 1048576 ∧ x.2.2.1.body.size ≤ 1048576, fun (x : List SConn × SAddr × SResponse × Bool × Unit) => ((openConn x.1 x.2.1 x.2.2.1 x.2.2.2.1).1, (openConn x.1 x.2.1 x.2.2.1 x.2.2.2.1).2, ())⟩
theorem k23_154 : fOpen.ok Tryz.prog 23 := Fct.o [0,3,5,6,8,9,10,22,1000022] E154ok Tryz.func23 (by
  rintro ⟨(l : List SConn), (a : SAddr), (x : SResponse), (g : Bool), _⟩ hp
  refine ho (.ob (True) <| .ob (Room (0 + List.length l) 112) <| .br (decide ((↑(List.length l) : Int) ≥ 3)) (.lf fOpen ([] ++ l, false, ())) (.cl fFind (l, a, ()) fun z2 => .br (decide (z2.1 ≥ 0)) (.lf fOpen ([] ++ l, false, ())) (.cl fSizeResponse (x, ()) fun z3 => .ob (True) <| .ob (Room (([] ++ l).length + [(⟨a, z3.1, g, x⟩ : SConn)].length) 112) <| .lf fOpen ([] ++ l ++ [(⟨a, z3.1, g, x⟩ : SConn)], true, ())))) ?_
  refine ob_i trivial fun _ => ob_i ?_ fun o1 => br_i (fun h2 => lfY ?_) (fun h2 => cl_i ?_ fun o3 => (br_i (fun h4 => lfY ?_) (fun h4 => cl_i ?_ fun o5 => (ob_i trivial fun _ => ob_i ?_ fun o6 => lfY ?_))))
  all_goals
   have hp1 : l.length ≤ 1048576 := hp.1
   have hp3 : x.body.size ≤ 1048576 := hp.2
   clear hp
   try simp only [std0] at *
   try simp only [fFind, fOpen, fSizeResponse, std, Nat.reduceAdd, fCopyConns, List.length_append, List.length_cons, List.length_nil] at *
  all_goals first | trivial | omega | (simp [openConn, h2]; done) | (simp [openConn, h4]; done) | (have hh : ¬ ((3 : Int) ≤ (l.length : Int) ∨ 0 ≤ findConn a l 0) := by omega; simp [openConn, hh]; done) | skip
  all_goals
    rw [openConn, if_neg (show ¬ ((l.length : Int) ≥ 3 ∨ findConn a l 0 ≥ 0) by rintro (h | h) <;> omega)]
    exact ⟨rfl, rfl⟩)
def E155 := E154.add 23 fOpen
theorem E155ok : EOk Tryz.prog E155 := E154ok.add k23_154
theorem k36_155 : fOpen.ok Tryz.prog 36 := Fct.o [0,3,5,6,8,9,10,21,1000021] E155ok Tryz.func36 (by
  rintro ⟨(l : List SConn), (a : SAddr), (x : SResponse), (g : Bool), _⟩ hp
  refine ho (.cl fCopyConns (l, ()) fun z2 => .br (decide ((↑(List.length l) : Int) ≥ 3)) (.lf fOpen (z2.1, false, ())) (.cl fFind (l, a, ()) fun z3 => .br (decide (z3.1 ≥ 0)) (.lf fOpen (z2.1, false, ())) (.cl fSizeResponse (x, ()) fun z4 => .ob (True) <| .ob (Room (z2.1.length + [(⟨a, z4.1, g, x⟩ : SConn)].length) 112) <| .lf fOpen (z2.1 ++ [(⟨a, z4.1, g, x⟩ : SConn)], true, ())))) ?_
  refine cl_i ?_ fun o1 => (br_i (fun h2 => lfY ?_) (fun h2 => cl_i ?_ fun o3 => (br_i (fun h4 => lfY ?_) (fun h4 => cl_i ?_ fun o5 => (ob_i trivial fun _ => ob_i ?_ fun o6 => lfY ?_)))))
  all_goals
   have hp1 : l.length ≤ 1048576 := hp.1
   have hp3 : x.body.size ≤ 1048576 := hp.2
   clear hp
   try simp only [std0] at *
   try simp only [fCopyConns, fFind, fOpen, fSizeResponse, std, Nat.reduceAdd, fCopyConns, List.length_append, List.length_cons, List.length_nil] at *
  all_goals first | trivial | omega | (simp [openConn, h2]; done) | (simp [openConn, h4]; done) | (have hh : ¬ ((3 : Int) ≤ (l.length : Int) ∨ 0 ≤ findConn a l 0) := by omega; simp [openConn, hh]; done) | skip
  all_goals
    rw [openConn, if_neg (show ¬ ((l.length : Int) ≥ 3 ∨ findConn a l 0 ≥ 0) by rintro (h | h) <;> omega)]
    exact ⟨rfl, rfl⟩)
def E156 := E155.add 36 fOpen
theorem E156ok : EOk Tryz.prog E156 := E155ok.add k36_155
def fIndex_addr : Fct := ⟨[.v (.sl .addr), .v (.el .addr)], [.el .int], fun (x_ : (List SAddr) × SAddr × Unit) => x_.1.length ≤ 1000000000000000000, fun (x_ : (List SAddr) × SAddr × Unit) => (fidx (fun c => decide (c = x_.2.1)) x_.1 0, ())⟩
abbrev W_slices_Index_impl_Addr_impl_Addr_fIndex_addr_2 (l : (List SAddr)) (a : SAddr) : LInv := ⟨[⟨.s, 8, true, .el .int⟩, ⟨.b, 3, true, .el .addr⟩], fun (z_ : Int × SAddr × Unit) (x_ : Int × SAddr × Unit) => (0 ≤ x_.1 ∧ x_.1 ≤ l.length ∧ fidx (fun c => decide (c = a)) l 0 = fidx (fun c => decide (c = a)) (l.drop x_.1.toNat) x_.1) ∧ x_.2.1 = z_.2.1, fun (x_ : Int × SAddr × Unit) => l.length - x_.1.toNat⟩
theorem k238_156 : fIndex_addr.ok Tryz.prog 238 := Fct.of (S := fIndex_addr) (L := fun ⟨l, a, _⟩ => fun | 2 => some (W_slices_Index_impl_Addr_impl_Addr_fIndex_addr_2 l a) | _ => none) (kp := [0,3,4,5,7,8,9,16,1000009,1000016]) E156ok Tryz.func238 (by kernel_rfl) (by kernel_rfl) (by
  rintro ⟨(l : List SAddr), (a : SAddr), _⟩ hp
  refine ho (lpx (W_slices_Index_impl_Addr_impl_Addr_fIndex_addr_2 l a) ((0 : Int), (a, ())) fun (y1 : Int × SAddr × PUnit) bk1 => .br (decide (y1.1 < (↑l.length : Int))) (.ob (inB y1.1 l.length) <| .br (y1.2.1.host == (l.getD y1.1.toNat default).host && (y1.2.1.path == (l.getD y1.1.toNat default).path && true)) (.lf fIndex_addr (y1.1, ())) (.ob (l = l) <| .ob (Value.int IntKind.i64 (↑l.length : Int) = Value.int IntKind.i64 (↑l.length : Int)) <| .ob (bk1 (w1 y1.1, (y1.2.1, ()))) <| .ok)) (.lf fIndex_addr ((-1 : Int), ()))) ?_
  refine lpx_i ?_ fun (y1 : Int × SAddr × PUnit) i1 => br_i (fun h2 => ob_i ?_ fun o3 => br_i (fun h4 => lfY ?_) (fun h4 => ob_i rfl fun _ => ob_i rfl fun _ => ob_i ?_ fun o5 => trivial)) (fun h2 => lfY ?_)
  all_goals
   try simp only [beqAddr] at *
   try simp only [W_slices_Index_impl_Addr_impl_Addr_fIndex_addr_2, fIndex_addr, std, Nat.reduceAdd, fidx] at *
   try simp (disch := omega) only [wrapId', toNat1] at *
   try simp (disch := omega) only [if_pos, if_neg]
  all_goals first | trivial | omega | grind [wrapId', toNat1, drop_cons, drop_end, good_len, maxLen, fidx])
def E157 := E156.add 238 fIndex_addr
theorem E157ok : EOk Tryz.prog E157 := E156ok.add k238_156
def fContains_addr : Fct := ⟨[.v (.sl .addr), .v (.el .addr)], [.el .bool], fun (x_ : (List SAddr) × SAddr × Unit) => x_.1.length ≤ 1000000000000000000, fun (x_ : (List SAddr) × SAddr × Unit) => (x_.1.any fun c => decide (c = x_.2.1), ())⟩
theorem k185_157 : fContains_addr.ok Tryz.prog 185 := Fct.o [0,3,4] E157ok Tryz.func185 (by
  rintro ⟨(l : List SAddr), (a : SAddr), _⟩ hp
  refine ho (.cl fIndex_addr (l, a, ()) fun z2 => .lf fContains_addr (decide (z2.1 ≥ 0), ())) ?_
  refine cl_i ?_ fun o1 => (lfY ?_)
  all_goals try simp only [fContains_addr, fIndex_addr, std, Nat.reduceAdd] at *
  all_goals first | trivial | omega | (rw [Bool.eq_iff_iff]; exact decide_eq_true_iff.trans (fidx_ge _ _ _ (by omega))))
def E158 := E157.add 185 fContains_addr
theorem E158ok : EOk Tryz.prog E158 := E157ok.add k185_157
def fHasAddr : Fct := ⟨[.v (.sl .addr), .v (.el .addr)], [.el .bool], fun (x_ : (List SAddr) × SAddr × Unit) => x_.1.length ≤ 1000000000000000000, fun (x_ : (List SAddr) × SAddr × Unit) => (x_.1.any fun c => decide (c = x_.2.1), ())⟩
abbrev W_spec_HasAddr_fHasAddr_2 (l : (List SAddr)) (a : SAddr) : LInv := ⟨[⟨.s, 5, true, .el .int⟩, ⟨.b, 3, true, .el .addr⟩], fun (z_ : Int × SAddr × Unit) (x_ : Int × SAddr × Unit) => (0 ≤ x_.1 ∧ x_.1 ≤ l.length ∧ l.any (fun c => decide (c = a)) = (l.drop x_.1.toNat).any (fun c => decide (c = a))) ∧ x_.2.1 = z_.2.1, fun (x_ : Int × SAddr × Unit) => l.length - x_.1.toNat⟩
theorem k71_158 : fHasAddr.ok Tryz.prog 71 := Fct.of (S := fHasAddr) (L := fun ⟨l, a, _⟩ => fun | 2 => some (W_spec_HasAddr_fHasAddr_2 l a) | _ => none) (kp := [0,3,4,5,9,17,1000009,1000017]) E158ok Tryz.func71 (by kernel_rfl) (by kernel_rfl) (by
  rintro ⟨(l : List SAddr), (a : SAddr), _⟩ hp
  refine ho (lpx (W_spec_HasAddr_fHasAddr_2 l a) ((0 : Int), (a, ())) fun (y1 : Int × SAddr × PUnit) bk1 => .br (decide (y1.1 < (↑l.length : Int))) (.ob (inB y1.1 l.length) <| .br ((l.getD y1.1.toNat default).host == y1.2.1.host && ((l.getD y1.1.toNat default).path == y1.2.1.path && true)) (.lf fHasAddr (true, ())) (.ob (l = l) <| .ob (bk1 (w1 y1.1, (y1.2.1, ()))) <| .ok)) (.lf fHasAddr (false, ()))) ?_
  refine lpx_i ?_ fun (y1 : Int × SAddr × PUnit) i1 => br_i (fun h2 => ob_i ?_ fun o3 => br_i (fun h4 => lfY ?_) (fun h4 => ob_i rfl fun _ => ob_i ?_ fun o5 => trivial)) (fun h2 => lfY ?_)
  all_goals
   try simp only [beqAddr] at *
   try simp only [W_spec_HasAddr_fHasAddr_2, fHasAddr, std, Nat.reduceAdd] at *
   try simp (disch := omega) only [wrapId', toNat1] at *
   try simp (disch := omega) only [if_pos, if_neg]
  all_goals first | trivial | omega | grind [wrapId', toNat1, drop_cons, drop_end, good_len, maxLen])
def E159 := E158.add 71 fHasAddr
theorem E159ok : EOk Tryz.prog E159 := E158ok.add k71_158
theorem k99_159 : fHasAddr.ok Tryz.prog 99 := Fct.o [0,3,4] E159ok Tryz.func99 (by
  rintro ⟨(l : List SAddr), (a : SAddr), _⟩ hp
  refine ho (.cl fContains_addr (l, a, ()) fun z2 => .lf fHasAddr (z2.1, ())) ?_
  refine cl_i ?_ fun o1 => (lfY ?_)
  all_goals
   try simp only [beqAddr] at *
   try simp only [fContains_addr, fHasAddr, std, Nat.reduceAdd] at *
   try simp (disch := omega) only [wrapId', toNat1] at *
   try simp (disch := omega) only [if_pos, if_neg]
  all_goals first | trivial | omega | grind [wrapId', toNat1, drop_cons, drop_end, good_len, maxLen])
def E160 := E159.add 99 fHasAddr
theorem E160ok : EOk Tryz.prog E160 := E159ok.add k99_159
def fIndex_str : Fct := ⟨[.v (.sl .str), .v (.el .str)], [.el .int], fun (x_ : (List ByteArray) × ByteArray × Unit) => x_.1.length ≤ 1000000000000000000, fun (x_ : (List ByteArray) × ByteArray × Unit) => (fidx (fun c => decide (c = x_.2.1)) x_.1 0, ())⟩
abbrev W_slices_Index_string_string_fIndex_str_2 (l : (List ByteArray)) (a : ByteArray) : LInv := ⟨[⟨.s, 8, true, .el .int⟩], fun _ (x_ : Int × Unit) => 0 ≤ x_.1 ∧ x_.1 ≤ l.length ∧ fidx (fun c => decide (c = a)) l 0 = fidx (fun c => decide (c = a)) (l.drop x_.1.toNat) x_.1, fun (x_ : Int × Unit) => l.length - x_.1.toNat⟩
theorem k259_160 : fIndex_str.ok Tryz.prog 259 := Fct.of (S := fIndex_str) (L := fun ⟨l, a, _⟩ => fun | 2 => some (W_slices_Index_string_string_fIndex_str_2 l a) | _ => none) (kp := [0,1,4,5,7,8,9,16,1000009,1000016]) E160ok Tryz.func259 (by kernel_rfl) (by kernel_rfl) (by
  rintro ⟨(l : List ByteArray), (a : ByteArray), _⟩ hp
  refine ho (lpx (W_slices_Index_string_string_fIndex_str_2 l a) ((0 : Int), ()) fun (y1 : Int × PUnit) bk1 => .br (decide (y1.1 < (↑l.length : Int))) (.ob (inB y1.1 l.length) <| .br (a.toList == (l.getD y1.1.toNat default).toList) (.lf fIndex_str (y1.1, ())) (.ob (l = l) <| .ob (Value.string a = Value.string a) <| .ob (Value.int IntKind.i64 (↑l.length : Int) = Value.int IntKind.i64 (↑l.length : Int)) <| .ob (bk1 (w1 y1.1, ())) <| .ok)) (.lf fIndex_str ((-1 : Int), ()))) ?_
  refine lpx_i ?_ fun (y1 : Int × PUnit) i1 => br_i (fun h2 => ob_i ?_ fun o3 => br_i (fun h4 => lfY ?_) (fun h4 => ob_i rfl fun _ => ob_i rfl fun _ => ob_i rfl fun _ => ob_i ?_ fun o5 => trivial)) (fun h2 => lfY ?_)
  all_goals
   try simp only [baBeq, baEq] at *
   try simp only [W_slices_Index_string_string_fIndex_str_2, fIndex_str, std, Nat.reduceAdd, fidx] at *
   try simp (disch := omega) only [wrapId', toNat1] at *
   try simp (disch := omega) only [if_pos, if_neg]
  all_goals first | trivial | omega | grind [wrapId', toNat1, drop_cons, drop_end, good_len, maxLen, fidx])
def E161 := E160.add 259 fIndex_str
theorem E161ok : EOk Tryz.prog E161 := E160ok.add k259_160
def fContains_str : Fct := ⟨[.v (.sl .str), .v (.el .str)], [.el .bool], fun (x_ : (List ByteArray) × ByteArray × Unit) => x_.1.length ≤ 1000000000000000000, fun (x_ : (List ByteArray) × ByteArray × Unit) => (x_.1.any fun c => decide (c = x_.2.1), ())⟩
theorem k234_161 : fContains_str.ok Tryz.prog 234 := Fct.o [0,1,4] E161ok Tryz.func234 (by
  rintro ⟨(l : List ByteArray), (a : ByteArray), _⟩ hp
  refine ho (.cl fIndex_str (l, a, ()) fun z2 => .lf fContains_str (decide (z2.1 ≥ 0), ())) ?_
  refine cl_i ?_ fun o1 => (lfY ?_)
  all_goals try simp only [fContains_str, fIndex_str, std, Nat.reduceAdd] at *
  all_goals first | trivial | omega | (rw [Bool.eq_iff_iff]; exact decide_eq_true_iff.trans (fidx_ge _ _ _ (by omega))))
def E162 := E161.add 234 fContains_str
theorem E162ok : EOk Tryz.prog E162 := E161ok.add k234_161
def fHas9 : Fct := ⟨[.v (.sl .str), .v (.el .str)], [.el .bool], fun (x_ : (List ByteArray) × ByteArray × Unit) => x_.1.length ≤ 1000000000000000000, fun (x_ : (List ByteArray) × ByteArray × Unit) => (x_.1.any fun c => decide (c = x_.2.1), ())⟩
abbrev W_spec_l9Has_fHas9_2 (l : (List ByteArray)) (s : ByteArray) : LInv := ⟨[⟨.s, 5, true, .el .int⟩], fun _ (x_ : Int × Unit) => 0 ≤ x_.1 ∧ x_.1 ≤ l.length ∧ l.any (fun c => decide (c = s)) = (l.drop x_.1.toNat).any (fun c => decide (c = s)), fun (x_ : Int × Unit) => l.length - x_.1.toNat⟩
theorem k221_162 : fHas9.ok Tryz.prog 221 := Fct.of (S := fHas9) (L := fun ⟨l, s, _⟩ => fun | 2 => some (W_spec_l9Has_fHas9_2 l s) | _ => none) (kp := [0,1,4,5,9,17,1000009,1000017]) E162ok Tryz.func221 (by kernel_rfl) (by kernel_rfl) (by
  rintro ⟨(l : List ByteArray), (s : ByteArray), _⟩ hp
  refine ho (lpx (W_spec_l9Has_fHas9_2 l s) ((0 : Int), ()) fun (y1 : Int × PUnit) bk1 => .br (decide (y1.1 < (↑l.length : Int))) (.ob (inB y1.1 l.length) <| .br ((l.getD y1.1.toNat default).toList == s.toList) (.lf fHas9 (true, ())) (.ob (l = l) <| .ob (Value.string s = Value.string s) <| .ob (bk1 (w1 y1.1, ())) <| .ok)) (.lf fHas9 (false, ()))) ?_
  refine lpx_i ?_ fun (y1 : Int × PUnit) i1 => br_i (fun h2 => ob_i ?_ fun o3 => br_i (fun h4 => lfY ?_) (fun h4 => ob_i rfl fun _ => ob_i rfl fun _ => ob_i ?_ fun o5 => trivial)) (fun h2 => lfY ?_)
  all_goals
   try simp only [W_spec_l9Has_fHas9_2, fHas9, std, Nat.reduceAdd] at *
   try simp (disch := omega) only [wrapId', toNat1] at *
   try simp (disch := omega) only [if_pos, if_neg]
  all_goals first | trivial | omega | grind [wrapId', toNat1, drop_cons, drop_end, good_len, maxLen])
def E163 := E162.add 221 fHas9
theorem E163ok : EOk Tryz.prog E163 := E162ok.add k221_162
theorem szNode_get {l : List SNode} {i : Nat} (h : i < l.length) : (l.getD i default).attrs.length + l.length ≤ szL szNode l := by
  have := szL_get szNode h
  have h2 := szL_len szAttr (l.getD i default).attrs
  simp only [szNode] at this; omega
theorem szToken_get {l : List SToken} {i : Nat} (h : i < l.length) : (l.getD i default).attrs.length + l.length ≤ szL szToken l := by
  have := szL_get szToken h
  have h2 := szL_len szAttr (l.getD i default).attrs
  simp only [szToken] at this; omega
def fUnused : Fct := ⟨[.v (.sl .guess)], [.el .int], fun (x_ : (List SGuess) × Unit) => x_.1.length ≤ 1048576, fun (x_ : (List SGuess) × Unit) => (countIf (fun g => !g.used) x_.1, ())⟩
abbrev W_spec_UnusedGuesses_fUnused_3 (l : (List SGuess)) : LInv := ⟨[⟨.s, 3, true, .el .int⟩, ⟨.s, 4, true, .el .int⟩], fun _ (x_ : Int × Int × Unit) => 0 ≤ x_.2.1 ∧ x_.2.1 ≤ l.length ∧ 0 ≤ x_.1 ∧ x_.1 ≤ x_.2.1 ∧ x_.1 + countIf (fun g => !g.used) (l.drop x_.2.1.toNat) = countIf (fun g => !g.used) l, fun (x_ : Int × Int × Unit) => l.length - x_.2.1.toNat⟩
theorem k17_163 : fUnused.ok Tryz.prog 17 := Fct.of (S := fUnused) (L := fun ⟨l, _⟩ => fun | 3 => some (W_spec_UnusedGuesses_fUnused_3 l) | _ => none) (kp := [0,2,3,4,8,16,1000008,1000016]) E163ok Tryz.func17 (by kernel_rfl) (by kernel_rfl) (by
  rintro ⟨(l : List SGuess), _⟩ hp
  refine ho (lpx (W_spec_UnusedGuesses_fUnused_3 l) ((0 : Int), ((0 : Int), ())) fun (y1 : Int × Int × PUnit) bk1 => .br (decide (y1.2.1 < (↑l.length : Int))) (.ob (inB y1.2.1 l.length) <| .br (!(l.getD y1.2.1.toNat default).used) (.ob (l = l) <| .ob (Value.int IntKind.i64 0 = Value.int IntKind.i64 (0 : Int)) <| .ob (bk1 (w1 y1.1, (w1 y1.2.1, ()))) <| .ok) (.ob (l = l) <| .ob (Value.int IntKind.i64 0 = Value.int IntKind.i64 (0 : Int)) <| .ob (bk1 (y1.1, (w1 y1.2.1, ()))) <| .ok)) (.lf fUnused (y1.1, ()))) ?_
  refine lpx_i ?_ fun (y1 : Int × Int × PUnit) i1 => br_i (fun h2 => ob_i ?_ fun o3 => br_i (fun h4 => ob_i rfl fun _ => ob_i rfl fun _ => ob_i ?_ fun o5 => trivial) (fun h4 => ob_i rfl fun _ => ob_i rfl fun _ => ob_i ?_ fun o6 => trivial)) (fun h2 => lfY ?_)
  all_goals
   try simp only [W_spec_UnusedGuesses_fUnused_3, fUnused, std, Nat.reduceAdd, countIf, countIf_le] at *
   try simp (disch := omega) only [wrapId', toNat1] at *
   try simp (disch := omega) only [if_pos, if_neg]
  all_goals first | trivial | omega | grind [wrapId', toNat1, drop_cons, drop_end, good_len, maxLen, countIf, countIf_le])
def E164 := E163.add 17 fUnused
theorem E164ok : EOk Tryz.prog E164 := E163ok.add k17_163
abbrev W_impl_UnusedGuesses_fUnused_3 (l : (List SGuess)) : LInv := ⟨[⟨.s, 3, true, .el .int⟩, ⟨.s, 8, true, .el .int⟩], fun _ (x_ : Int × Int × Unit) => 0 ≤ x_.2.1 ∧ x_.2.1 ≤ l.length ∧ 0 ≤ x_.1 ∧ x_.1 ≤ x_.2.1 ∧ x_.1 + countIf (fun g => !g.used) (l.drop x_.2.1.toNat) = countIf (fun g => !g.used) l, fun (x_ : Int × Int × Unit) => l.length - x_.2.1.toNat⟩
theorem k30_164 : fUnused.ok Tryz.prog 30 := Fct.of (S := fUnused) (L := fun ⟨l, _⟩ => fun | 3 => some (W_impl_UnusedGuesses_fUnused_3 l) | _ => none) (kp := [0,2,3,5,6,7,8,9,14,1000009,1000014]) E164ok Tryz.func30 (by kernel_rfl) (by kernel_rfl) (by
  rintro ⟨(l : List SGuess), _⟩ hp
  refine ho (lpx (W_impl_UnusedGuesses_fUnused_3 l) ((0 : Int), ((0 : Int), ())) fun (y1 : Int × Int × PUnit) bk1 => .br (decide (y1.2.1 < (↑l.length : Int))) (.ob (inB y1.2.1 l.length) <| .br (!(l.getD y1.2.1.toNat default).used) (.ob (l = l) <| .ob (Value.int IntKind.i64 0 = Value.int IntKind.i64 (0 : Int)) <| .ob (l = l) <| .ob (Value.int IntKind.i64 (↑l.length : Int) = Value.int IntKind.i64 (↑l.length : Int)) <| .ob (bk1 (w1 y1.1, (w1 y1.2.1, ()))) <| .ok) (.ob (l = l) <| .ob (Value.int IntKind.i64 0 = Value.int IntKind.i64 (0 : Int)) <| .ob (l = l) <| .ob (Value.int IntKind.i64 (↑l.length : Int) = Value.int IntKind.i64 (↑l.length : Int)) <| .ob (bk1 (y1.1, (w1 y1.2.1, ()))) <| .ok)) (.lf fUnused (y1.1, ()))) ?_
  refine lpx_i ?_ fun (y1 : Int × Int × PUnit) i1 => br_i (fun h2 => ob_i ?_ fun o3 => br_i (fun h4 => ob_i rfl fun _ => ob_i rfl fun _ => ob_i rfl fun _ => ob_i rfl fun _ => ob_i ?_ fun o5 => trivial) (fun h4 => ob_i rfl fun _ => ob_i rfl fun _ => ob_i rfl fun _ => ob_i rfl fun _ => ob_i ?_ fun o6 => trivial)) (fun h2 => lfY ?_)
  all_goals
   try simp only [W_impl_UnusedGuesses_fUnused_3, fUnused, std, Nat.reduceAdd, countIf, countIf_le] at *
   try simp (disch := omega) only [wrapId', toNat1] at *
   try simp (disch := omega) only [if_pos, if_neg]
  all_goals first | trivial | omega | grind [wrapId', toNat1, drop_cons, drop_end, good_len, maxLen, countIf, countIf_le])
def E165 := E164.add 30 fUnused
theorem E165ok : EOk Tryz.prog E165 := E164ok.add k30_164
def fCopyAttrs : Fct := ⟨[.v (.sl .attr)], [.sl .attr], fun (x_ : (List SAttr) × Unit) => x_.1.length ≤ 1073741824, fun (x_ : (List SAttr) × Unit) => (x_.1, ())⟩
theorem k216_165 : fCopyAttrs.ok Tryz.prog 216 := Fct.o [0,2] E165ok Tryz.func216 (by
  rintro ⟨(l : List SAttr), _⟩ hp
  refine ho (.ob (True) <| .ob (Room (0 + List.length l) 32) <| .lf fCopyAttrs ([] ++ l, ())) ?_
  refine ob_i trivial fun _ => ob_i ?_ fun o1 => lfY ?_
  all_goals
   try simp only [fCopyAttrs, std, Nat.reduceAdd] at *
   try simp (disch := omega) only [wrapId', toNat1] at *
   try simp (disch := omega) only [if_pos, if_neg]
  all_goals first | trivial | omega | grind [wrapId', toNat1, drop_cons, drop_end, good_len, maxLen])
def E166 := E165.add 216 fCopyAttrs
theorem E166ok : EOk Tryz.prog E166 := E165ok.add k216_165
def fCopyToken : Fct := ⟨[.v (.el .token)], [.el .token], fun (x_ : SToken × Unit) => x_.1.attrs.length ≤ 1073741824, fun (x_ : SToken × Unit) => (x_.1, ())⟩
theorem k229_166 : fCopyToken.ok Tryz.prog 229 := Fct.o [1,2] E166ok Tryz.func229 (by
  rintro ⟨(t : SToken), _⟩ hp
  refine ho (.ob (True) <| .ob (Room (0 + t.attrs.length) 32) <| .lf fCopyToken (⟨t.kind, t.name, [] ++ t.attrs, t.text⟩, ())) ?_
  refine ob_i trivial fun _ => ob_i ?_ fun o1 => lfY ?_
  all_goals
   try simp only [fCopyToken, std, Nat.reduceAdd] at *
   try simp (disch := omega) only [wrapId', toNat1] at *
   try simp (disch := omega) only [if_pos, if_neg]
  all_goals first | trivial | omega | grind [wrapId', toNat1, drop_cons, drop_end, good_len, maxLen])
def E167 := E166.add 229 fCopyToken
theorem E167ok : EOk Tryz.prog E167 := E166ok.add k229_166
def fCopyTokens : Fct := ⟨[.v (.sl .token)], [.sl .token], fun (x_ : (List SToken) × Unit) => szL szToken x_.1 ≤ 1073741824, fun (x_ : (List SToken) × Unit) => (x_.1, ())⟩
abbrev W_spec_l15Tokens_fCopyTokens_3 (l : (List SToken)) : LInv := ⟨[⟨.s, 3, true, .sl .token⟩, ⟨.s, 4, true, .el .int⟩], fun _ (x_ : (List SToken) × Int × Unit) => 0 ≤ x_.2.1 ∧ x_.2.1 ≤ l.length ∧ x_.1 = l.take x_.2.1.toNat, fun (x_ : (List SToken) × Int × Unit) => l.length - x_.2.1.toNat⟩
theorem k154_167 : fCopyTokens.ok Tryz.prog 154 := Fct.of (S := fCopyTokens) (L := fun ⟨l, _⟩ => fun | 3 => some (W_spec_l15Tokens_fCopyTokens_3 l) | _ => none) (kp := [0,2,3,4,5,10,1000010]) E167ok Tryz.func154 (by kernel_rfl) (by kernel_rfl) (by
  rintro ⟨(l : List SToken), _⟩ hp
  refine ho (lpx (W_spec_l15Tokens_fCopyTokens_3 l) ([], ((0 : Int), ())) fun (y1 : List SToken × Int × PUnit) bk1 => .br (decide (y1.2.1 < (↑l.length : Int))) (.ob (inB y1.2.1 l.length) <| .ob (inB y1.2.1 l.length) <| .cl fCopyAttrs ((l.getD y1.2.1.toNat default).attrs, ()) fun z2 => .ob (Room (y1.1.length + [(⟨(l.getD y1.2.1.toNat default).kind, (l.getD y1.2.1.toNat default).name, z2.1, (l.getD y1.2.1.toNat default).text⟩ : SToken)].length) 64) <| .ob (l = l) <| .ob (bk1 (y1.1 ++ [(⟨(l.getD y1.2.1.toNat default).kind, (l.getD y1.2.1.toNat default).name, z2.1, (l.getD y1.2.1.toNat default).text⟩ : SToken)], (w1 y1.2.1, ()))) <| .ok) (.lf fCopyTokens (y1.1, ()))) ?_
  refine lpx_i ?_ fun (y1 : List SToken × Int × PUnit) i1 => br_i (fun h2 => ob_i ?_ fun o3 => ob_i ?_ fun o4 => cl_i ?_ fun o5 => (ob_i ?_ fun o6 => ob_i rfl fun _ => ob_i ?_ fun o7 => trivial)) (fun h2 => lfY ?_)
  all_goals
   have hl := szL_len szToken l
   try have hg := szToken_get (l := l) (i := y1.2.1.toNat)
   try have hg := szToken_get (l := l) (i := y2.2.1.toNat)
   try simp only [W_spec_l15Tokens_fCopyTokens_3, fCopyAttrs, fCopyTokens, std, Nat.reduceAdd, fCopyAttrs, fCopyToken, take_succ, take_end] at *
   try simp (disch := omega) only [wrapId', toNat1] at *
   try simp (disch := omega) only [if_pos, if_neg]
  all_goals first | trivial | omega | grind [wrapId', toNat1, drop_cons, drop_end, good_len, maxLen, fCopyAttrs, fCopyToken, take_succ, take_end])
def E168 := E167.add 154 fCopyTokens
theorem E168ok : EOk Tryz.prog E168 := E167ok.add k154_167
abbrev W_impl_copyTokens_fCopyTokens_3 (l : (List SToken)) : LInv := ⟨[⟨.s, 3, true, .sl .token⟩, ⟨.s, 9, true, .el .int⟩], fun _ (x_ : (List SToken) × Int × Unit) => 0 ≤ x_.2.1 ∧ x_.2.1 ≤ l.length ∧ x_.1 = l.take x_.2.1.toNat, fun (x_ : (List SToken) × Int × Unit) => l.length - x_.2.1.toNat⟩
theorem k177_168 : fCopyTokens.ok Tryz.prog 177 := Fct.of (S := fCopyTokens) (L := fun ⟨l, _⟩ => fun | 3 => some (W_impl_copyTokens_fCopyTokens_3 l) | _ => none) (kp := [0,2,3,5,7,8,9,10,1000010]) E168ok Tryz.func177 (by kernel_rfl) (by kernel_rfl) (by
  rintro ⟨(l : List SToken), _⟩ hp
  refine ho (lpx (W_impl_copyTokens_fCopyTokens_3 l) ([], ((0 : Int), ())) fun (y1 : List SToken × Int × PUnit) bk1 => .br (decide (y1.2.1 < (↑l.length : Int))) (.ob (inB y1.2.1 l.length) <| .cl fCopyToken (l.getD y1.2.1.toNat default, ()) fun z2 => .ob (Room (y1.1.length + [z2.1].length) 64) <| .ob (l = l) <| .ob (l = l) <| .ob (Value.int IntKind.i64 (↑l.length : Int) = Value.int IntKind.i64 (↑l.length : Int)) <| .ob (bk1 (y1.1 ++ [z2.1], (w1 y1.2.1, ()))) <| .ok) (.lf fCopyTokens (y1.1, ()))) ?_
  refine lpx_i ?_ fun (y1 : List SToken × Int × PUnit) i1 => br_i (fun h2 => ob_i ?_ fun o3 => cl_i ?_ fun o4 => (ob_i ?_ fun o5 => ob_i rfl fun _ => ob_i rfl fun _ => ob_i rfl fun _ => ob_i ?_ fun o6 => trivial)) (fun h2 => lfY ?_)
  all_goals
   have hl := szL_len szToken l
   try have hg := szToken_get (l := l) (i := y1.2.1.toNat)
   try have hg := szToken_get (l := l) (i := y2.2.1.toNat)
   try simp only [W_impl_copyTokens_fCopyTokens_3, fCopyToken, fCopyTokens, std, Nat.reduceAdd, fCopyAttrs, fCopyToken, take_succ, take_end] at *
   try simp (disch := omega) only [wrapId', toNat1] at *
   try simp (disch := omega) only [if_pos, if_neg]
  all_goals first | trivial | omega | grind [wrapId', toNat1, drop_cons, drop_end, good_len, maxLen, fCopyAttrs, fCopyToken, take_succ, take_end])
def E169 := E168.add 177 fCopyTokens
theorem E169ok : EOk Tryz.prog E169 := E168ok.add k177_168
theorem builder_take {b : SBuilder} {n : Nat} (h : b.nodes.length ≤ n) : (⟨b.nodes.take n, b.open_⟩ : SBuilder) = b := by rw [List.take_of_length_le h]
def fCopyBuilder : Fct := ⟨[.v (.el .builder)], [.el .builder], fun (x_ : SBuilder × Unit) => szBuilder x_.1 ≤ 1073741824, fun (x_ : SBuilder × Unit) => (x_.1, ())⟩
abbrev W_spec_l6Copy_fCopyBuilder_3 (b : SBuilder) : LInv := ⟨[⟨.b, 3, true, .el .builder⟩, ⟨.s, 4, true, .el .int⟩, ⟨.b, 1, false, .el .builder⟩, ⟨.b, 2, true, .el .builder⟩], fun (z_ : SBuilder × Int × SBuilder × SBuilder × Unit) (x_ : SBuilder × Int × SBuilder × SBuilder × Unit) => ((0 ≤ x_.2.1 ∧ x_.2.1 ≤ b.nodes.length ∧ x_.1 = ⟨b.nodes.take x_.2.1.toNat, b.open_⟩) ∧ x_.2.2.1 = z_.2.2.1) ∧ x_.2.2.2.1 = z_.2.2.2.1, fun (x_ : SBuilder × Int × SBuilder × SBuilder × Unit) => b.nodes.length - x_.2.1.toNat⟩
theorem k155_169 : fCopyBuilder.ok Tryz.prog 155 := Fct.of (S := fCopyBuilder) (L := fun ⟨b, _⟩ => fun | 3 => some (W_spec_l6Copy_fCopyBuilder_3 b) | _ => none) (kp := [1,2,3,4,5,15,1000015]) E169ok Tryz.func155 (by kernel_rfl) (by kernel_rfl) (by
  rintro ⟨(b : SBuilder), _⟩ hp
  refine ho (.ob (True) <| .ob (Room (0 + b.open_.length) 8) <| lpx (W_spec_l6Copy_fCopyBuilder_3 b) ((⟨[], [] ++ b.open_⟩ : SBuilder), ((0 : Int), (b, (default, ())))) fun (y2 : SBuilder × Int × SBuilder × SBuilder × PUnit) bk2 => .br (decide (y2.2.1 < (↑y2.2.2.1.nodes.length : Int))) (.ob (inB y2.2.1 y2.2.2.1.nodes.length) <| .ob (inB y2.2.1 y2.2.2.1.nodes.length) <| .cl fCopyAttrs ((y2.2.2.1.nodes.getD y2.2.1.toNat default).attrs, ()) fun z2 => .ob (Room (y2.1.nodes.length + [(⟨(y2.2.2.1.nodes.getD y2.2.1.toNat default).name, (y2.2.2.1.nodes.getD y2.2.1.toNat default).text, (y2.2.2.1.nodes.getD y2.2.1.toNat default).parent, z2.1⟩ : SNode)].length) 64) <| .ob (bk2 ((⟨y2.1.nodes ++ [(⟨(y2.2.2.1.nodes.getD y2.2.1.toNat default).name, (y2.2.2.1.nodes.getD y2.2.1.toNat default).text, (y2.2.2.1.nodes.getD y2.2.1.toNat default).parent, z2.1⟩ : SNode)], y2.1.open_⟩ : SBuilder), (w1 y2.2.1, (y2.2.2.1, (y2.2.2.2.1, ()))))) <| .ok) (.lf fCopyBuilder (y2.1, ()))) ?_
  refine ob_i trivial fun _ => ob_i ?_ fun o1 => lpx_i ?_ fun (y2 : SBuilder × Int × SBuilder × SBuilder × PUnit) i2 => br_i (fun h3 => ob_i ?_ fun o4 => ob_i ?_ fun o5 => cl_i ?_ fun o6 => (ob_i ?_ fun o7 => ob_i ?_ fun o8 => trivial)) (fun h3 => lfY ?_)
  all_goals
   have hl := szL_len szNode b.nodes
   try have hg := szNode_get (l := b.nodes) (i := y1.2.1.toNat)
   try have hg := szNode_get (l := b.nodes) (i := y2.2.1.toNat)
   try simp only [W_spec_l6Copy_fCopyBuilder_3, fCopyAttrs, fCopyBuilder, std, Nat.reduceAdd, fCopyAttrs, take_succ, builder_take, szBuilder] at *
   try simp (disch := omega) only [wrapId', toNat1] at *
   try simp (disch := omega) only [if_pos, if_neg]
  all_goals first | trivial | omega | grind [wrapId', toNat1, drop_cons, drop_end, good_len, maxLen, fCopyAttrs, take_succ, builder_take, szBuilder])
def E170 := E169.add 155 fCopyBuilder
theorem E170ok : EOk Tryz.prog E170 := E169ok.add k155_169
abbrev W_impl_copyBuilder_fCopyBuilder_3 (b : SBuilder) : LInv := ⟨[⟨.b, 3, true, .el .builder⟩, ⟨.s, 14, true, .el .int⟩, ⟨.b, 2, true, .el .builder⟩], fun (z_ : SBuilder × Int × SBuilder × Unit) (x_ : SBuilder × Int × SBuilder × Unit) => (0 ≤ x_.2.1 ∧ x_.2.1 ≤ b.nodes.length ∧ x_.1 = ⟨b.nodes.take x_.2.1.toNat, b.open_⟩) ∧ x_.2.2.1 = z_.2.2.1, fun (x_ : SBuilder × Int × SBuilder × Unit) => b.nodes.length - x_.2.1.toNat⟩
theorem k178_170 : fCopyBuilder.ok Tryz.prog 178 := Fct.of (S := fCopyBuilder) (L := fun ⟨b, _⟩ => fun | 3 => some (W_impl_copyBuilder_fCopyBuilder_3 b) | _ => none) (kp := [1,2,3,5,12,13,14,15,1000015]) E170ok Tryz.func178 (by kernel_rfl) (by kernel_rfl) (by
  rintro ⟨(b : SBuilder), _⟩ hp
  refine ho (.ob (True) <| .ob (Room (0 + b.open_.length) 8) <| lpx (W_impl_copyBuilder_fCopyBuilder_3 b) ((⟨[], [] ++ b.open_⟩ : SBuilder), ((0 : Int), (default, ()))) fun (y2 : SBuilder × Int × SBuilder × PUnit) bk2 => .br (decide (y2.2.1 < (↑b.nodes.length : Int))) (.ob (inB y2.2.1 b.nodes.length) <| .ob (True) <| .ob (Room (0 + (b.nodes.getD y2.2.1.toNat default).attrs.length) 32) <| .ob (Room (y2.1.nodes.length + [(⟨(b.nodes.getD y2.2.1.toNat default).name, (b.nodes.getD y2.2.1.toNat default).text, (b.nodes.getD y2.2.1.toNat default).parent, [] ++ (b.nodes.getD y2.2.1.toNat default).attrs⟩ : SNode)].length) 64) <| .ob (b.nodes = b.nodes) <| .ob (Value.int IntKind.i64 (↑b.nodes.length : Int) = Value.int IntKind.i64 (↑b.nodes.length : Int)) <| .ob (bk2 ((⟨y2.1.nodes ++ [(⟨(b.nodes.getD y2.2.1.toNat default).name, (b.nodes.getD y2.2.1.toNat default).text, (b.nodes.getD y2.2.1.toNat default).parent, [] ++ (b.nodes.getD y2.2.1.toNat default).attrs⟩ : SNode)], y2.1.open_⟩ : SBuilder), (w1 y2.2.1, (y2.2.2.1, ())))) <| .ok) (.lf fCopyBuilder (y2.1, ()))) ?_
  refine ob_i trivial fun _ => ob_i ?_ fun o1 => lpx_i ?_ fun (y2 : SBuilder × Int × SBuilder × PUnit) i2 => br_i (fun h3 => ob_i ?_ fun o4 => ob_i trivial fun _ => ob_i ?_ fun o5 => ob_i ?_ fun o6 => ob_i rfl fun _ => ob_i rfl fun _ => ob_i ?_ fun o7 => trivial) (fun h3 => lfY ?_)
  all_goals
   have hl := szL_len szNode b.nodes
   try have hg := szNode_get (l := b.nodes) (i := y1.2.1.toNat)
   try have hg := szNode_get (l := b.nodes) (i := y2.2.1.toNat)
   try simp only [W_impl_copyBuilder_fCopyBuilder_3, fCopyBuilder, std, Nat.reduceAdd, fCopyAttrs, take_succ, builder_take, szBuilder] at *
   try simp (disch := omega) only [wrapId', toNat1] at *
   try simp (disch := omega) only [if_pos, if_neg]
  all_goals first | trivial | omega | grind [wrapId', toNat1, drop_cons, drop_end, good_len, maxLen, fCopyAttrs, take_succ, builder_take, szBuilder])
def E171 := E170.add 178 fCopyBuilder
theorem E171ok : EOk Tryz.prog E171 := E170ok.add k178_170
def fCopyPolicy : Fct := ⟨[.v (.el .policy)], [.el .policy], fun (x_ : SPolicy × Unit) => szPolicy x_.1 ≤ 1073741824, fun (x_ : SPolicy × Unit) => (x_.1, ())⟩
theorem k153_171 : fCopyPolicy.ok Tryz.prog 153 := Fct.o [1,2] E171ok Tryz.func153 (by
  rintro ⟨(p : SPolicy), _⟩ hp
  refine ho (.ob (True) <| .ob (Room p.scripts.length 16) <| .ob (True) <| .ob (Room p.styles.length 16) <| .ob (True) <| .ob (Room p.images.length 16) <| .lf fCopyPolicy (p, ())) ?_
  refine ob_i trivial fun _ => ob_i ?_ fun o1 => ob_i trivial fun _ => ob_i ?_ fun o2 => ob_i trivial fun _ => ob_i ?_ fun o3 => lfY ?_
  all_goals
   have hl1 := szL_len szString p.scripts
   have hl2 := szL_len szString p.styles
   have hl3 := szL_len szString p.images
   try simp only [fCopyPolicy, std, Nat.reduceAdd, szPolicy] at *
   try simp (disch := omega) only [wrapId', toNat1] at *
   try simp (disch := omega) only [if_pos, if_neg]
  all_goals first | trivial | omega | grind [wrapId', toNat1, drop_cons, drop_end, good_len, maxLen, szPolicy])
def E172 := E171.add 153 fCopyPolicy
theorem E172ok : EOk Tryz.prog E172 := E171ok.add k153_171
theorem k176_172 : fCopyPolicy.ok Tryz.prog 176 := Fct.o [1,2] E172ok Tryz.func176 (by
  rintro ⟨(p : SPolicy), _⟩ hp
  refine ho (.ob (True) <| .ob (Room (0 + p.scripts.length) 16) <| .ob (True) <| .ob (Room (0 + p.styles.length) 16) <| .ob (True) <| .ob (Room (0 + p.images.length) 16) <| .lf fCopyPolicy (⟨p.set_, [] ++ p.scripts, [] ++ p.styles, [] ++ p.images, p.nonce⟩, ())) ?_
  refine ob_i trivial fun _ => ob_i ?_ fun o1 => ob_i trivial fun _ => ob_i ?_ fun o2 => ob_i trivial fun _ => ob_i ?_ fun o3 => lfY ?_
  all_goals
   have hl1 := szL_len szString p.scripts
   have hl2 := szL_len szString p.styles
   have hl3 := szL_len szString p.images
   try simp only [fCopyPolicy, std, Nat.reduceAdd, szPolicy] at *
   try simp (disch := omega) only [wrapId', toNat1] at *
   try simp (disch := omega) only [if_pos, if_neg]
  all_goals first | trivial | omega | grind [wrapId', toNat1, drop_cons, drop_end, good_len, maxLen, szPolicy])
def E173 := E172.add 176 fCopyPolicy
theorem E173ok : EOk Tryz.prog E173 := E172ok.add k176_172
def fCopyPage : Fct := ⟨[.v (.el .page)], [.el .page], fun (x_ : SPage × Unit) => szPage x_.1 ≤ 1073741824, fun (x_ : SPage × Unit) => (x_.1, ())⟩
theorem k66_173 : fCopyPage.ok Tryz.prog 66 := Fct.o [1,2,3] E173ok Tryz.func66 (by
  rintro ⟨(p : SPage), _⟩ hp
  refine ho (.cl fCopyPolicy (p.policy, ()) fun z2 => .cl fCopyTokens (p.queue, ()) fun z3 => .cl fCopyBuilder (p.builder, ()) fun z4 => .ob (True) <| .ob (Room (0 + p.slots.length) 96) <| .ob (True) <| .ob (Room (0 + p.mods.length) 64) <| .ob (True) <| .ob (Room (0 + p.entries.length) 32) <| .ob (True) <| .ob (Room (0 + p.ran.length) 32) <| .ob (True) <| .ob (Room (0 + p.log.length) 16) <| .lf fCopyPage (⟨p.addr, z2.1, p.tok, z3.1, p.ended, z4.1, [] ++ p.slots, [] ++ p.mods, [] ++ p.entries, p.block, p.inline, p.deferred, p.entered, [] ++ p.ran, [] ++ p.log, p.loaded⟩, ())) ?_
  refine cl_i ?_ fun o1 => (cl_i ?_ fun o2 => (cl_i ?_ fun o3 => (ob_i trivial fun _ => ob_i ?_ fun o4 => ob_i trivial fun _ => ob_i ?_ fun o5 => ob_i trivial fun _ => ob_i ?_ fun o6 => ob_i trivial fun _ => ob_i ?_ fun o7 => ob_i trivial fun _ => ob_i ?_ fun o8 => lfY ?_)))
  all_goals
   have hl1 := szL_len szSlot p.slots
   have hl2 := szL_len szModule p.mods
   have hl3 := szL_len szAddr p.entries
   have hl4 := szL_len szAddr p.ran
   have hl5 := szL_len szString p.log
   try simp only [fCopyBuilder, fCopyPage, fCopyPolicy, fCopyTokens, std, Nat.reduceAdd, szPage, fCopyPolicy, fCopyTokens, fCopyBuilder] at *
   try simp (disch := omega) only [wrapId', toNat1] at *
   try simp (disch := omega) only [if_pos, if_neg]
  all_goals first | trivial | omega | grind [wrapId', toNat1, drop_cons, drop_end, good_len, maxLen, szPage, fCopyPolicy, fCopyTokens, fCopyBuilder])
def E174 := E173.add 66 fCopyPage
theorem E174ok : EOk Tryz.prog E174 := E173ok.add k66_173
theorem k92_174 : fCopyPage.ok Tryz.prog 92 := Fct.o [1,2] E174ok Tryz.func92 (by
  rintro ⟨(p : SPage), _⟩ hp
  refine ho (.cl fCopyPolicy (p.policy, ()) fun z2 => .cl fCopyTokens (p.queue, ()) fun z3 => .cl fCopyBuilder (p.builder, ()) fun z4 => .ob (True) <| .ob (Room (0 + p.slots.length) 96) <| .ob (True) <| .ob (Room (0 + p.mods.length) 64) <| .ob (True) <| .ob (Room (0 + p.entries.length) 32) <| .ob (True) <| .ob (Room (0 + p.ran.length) 32) <| .ob (True) <| .ob (Room (0 + p.log.length) 16) <| .lf fCopyPage (⟨p.addr, z2.1, p.tok, z3.1, p.ended, z4.1, [] ++ p.slots, [] ++ p.mods, [] ++ p.entries, p.block, p.inline, p.deferred, p.entered, [] ++ p.ran, [] ++ p.log, p.loaded⟩, ())) ?_
  refine cl_i ?_ fun o1 => (cl_i ?_ fun o2 => (cl_i ?_ fun o3 => (ob_i trivial fun _ => ob_i ?_ fun o4 => ob_i trivial fun _ => ob_i ?_ fun o5 => ob_i trivial fun _ => ob_i ?_ fun o6 => ob_i trivial fun _ => ob_i ?_ fun o7 => ob_i trivial fun _ => ob_i ?_ fun o8 => lfY ?_)))
  all_goals
   have hl1 := szL_len szSlot p.slots
   have hl2 := szL_len szModule p.mods
   have hl3 := szL_len szAddr p.entries
   have hl4 := szL_len szAddr p.ran
   have hl5 := szL_len szString p.log
   try simp only [fCopyBuilder, fCopyPage, fCopyPolicy, fCopyTokens, std, Nat.reduceAdd, szPage, fCopyPolicy, fCopyTokens, fCopyBuilder] at *
   try simp (disch := omega) only [wrapId', toNat1] at *
   try simp (disch := omega) only [if_pos, if_neg]
  all_goals first | trivial | omega | grind [wrapId', toNat1, drop_cons, drop_end, good_len, maxLen, szPage, fCopyPolicy, fCopyTokens, fCopyBuilder])
def E175 := E174.add 92 fCopyPage
theorem E175ok : EOk Tryz.prog E175 := E174ok.add k92_174
def fModAt : Fct := ⟨[.v (.el .page), .v (.el .addr)], [.el .int], fun (x_ : SPage × SAddr × Unit) => x_.1.mods.length ≤ 1000000000000, fun (x_ : SPage × SAddr × Unit) => (fidx (fun m => decide (m.to = x_.2.1)) x_.1.mods 0, ())⟩
abbrev W_spec_l18Find_fModAt_2 (p : SPage) (a : SAddr) : LInv := ⟨[⟨.s, 5, true, .el .int⟩, ⟨.b, 2, false, .el .page⟩, ⟨.b, 3, true, .el .addr⟩], fun (z_ : Int × SPage × SAddr × Unit) (x_ : Int × SPage × SAddr × Unit) => ((0 ≤ x_.1 ∧ x_.1 ≤ p.mods.length ∧ fidx (fun m => decide (m.to = a)) (p.mods.drop x_.1.toNat) x_.1 = fidx (fun m => decide (m.to = a)) p.mods 0) ∧ x_.2.1 = z_.2.1) ∧ x_.2.2.1 = z_.2.2.1, fun (x_ : Int × SPage × SAddr × Unit) => p.mods.length - x_.1.toNat⟩
theorem k159_175 : fModAt.ok Tryz.prog 159 := Fct.of (S := fModAt) (L := fun ⟨p, a, _⟩ => fun | 2 => some (W_spec_l18Find_fModAt_2 p a) | _ => none) (kp := [2,3,4,5,10,20,1000010,1000020]) E175ok Tryz.func159 (by kernel_rfl) (by kernel_rfl) (by
  rintro ⟨(p : SPage), (a : SAddr), _⟩ hp
  refine ho (lpx (W_spec_l18Find_fModAt_2 p a) ((0 : Int), (p, (a, ()))) fun (y1 : Int × SPage × SAddr × PUnit) bk1 => .br (decide (y1.1 < (↑y1.2.1.mods.length : Int))) (.ob (inB y1.1 y1.2.1.mods.length) <| .br ((y1.2.1.mods.getD y1.1.toNat default).to.host == y1.2.2.1.host && ((y1.2.1.mods.getD y1.1.toNat default).to.path == y1.2.2.1.path && true)) (.lf fModAt (y1.1, ())) (.ob (bk1 (w1 y1.1, (y1.2.1, (y1.2.2.1, ())))) <| .ok)) (.lf fModAt ((-1 : Int), ()))) ?_
  refine lpx_i ?_ fun (y1 : Int × SPage × SAddr × PUnit) i1 => br_i (fun h2 => ob_i ?_ fun o3 => br_i (fun h4 => lfY ?_) (fun h4 => ob_i ?_ fun o5 => trivial)) (fun h2 => lfY ?_)
  all_goals
   try simp only [beqAddr] at *
   try simp only [W_spec_l18Find_fModAt_2, fModAt, std, Nat.reduceAdd, fidx] at *
   try simp (disch := omega) only [wrapId', toNat1] at *
   try simp (disch := omega) only [if_pos, if_neg]
  all_goals first | trivial | omega | grind [wrapId', toNat1, drop_cons, drop_end, good_len, maxLen, fidx])
def E176 := E175.add 159 fModAt
theorem E176ok : EOk Tryz.prog E176 := E175ok.add k159_175
def fModAt1 : Fct := ⟨[.v (.el .module), .p (.el .addr)], [.el .bool], fun (x_ : SModule × SAddr × Unit) => True, fun (x_ : SModule × SAddr × Unit) => (decide (x_.1.to = x_.2.1), ())⟩
theorem k236_176 : fModAt1.ok Tryz.prog 236 := Fct.o [1,2,3] E176ok Tryz.func236 (by
  rintro ⟨(m : SModule), (a : SAddr), _⟩ hp
  refine ho (.lf fModAt1 (m.to.host == a.host && (m.to.path == a.path && true), ())) ?_
  refine lfY ?_
  all_goals
   try simp only [beqAddr] at *
   try simp only [fModAt1, std, Nat.reduceAdd] at *
   try simp (disch := omega) only [wrapId', toNat1] at *
   try simp (disch := omega) only [if_pos, if_neg]
  all_goals first | trivial | omega | grind [wrapId', toNat1, drop_cons, drop_end, good_len, maxLen])
def E177 := E176.add 236 fModAt1
theorem E177ok : EOk Tryz.prog E177 := E176ok.add k236_176
def fIndexFunc_module_impl_modAt_1 : Fct := ⟨[aL .module, .c 236 [.el .addr]], [rI], fun x => x.1.length ≤ 1000000000000000000 ∧ ∀ c, fModAt1.pre (c, x.2.1), fun x => (fidx (fun c => (fModAt1.fn (c, x.2.1)).1) x.1 0, ())⟩
abbrev W_slices_IndexFunc_impl_Module_impl_Module_fIndexFunc_module_impl_modAt_1_2 (l : (List SModule)) (u : (SAddr × Unit)) : LInv := ⟨[⟨.s, 8, true, .el .int⟩], fun _ (x_ : Int × Unit) => 0 ≤ x_.1 ∧ x_.1 ≤ l.length ∧ fidx (fun c => (fModAt1.fn (c, u)).1) l 0 = fidx (fun c => (fModAt1.fn (c, u)).1) (l.drop x_.1.toNat) x_.1, fun (x_ : Int × Unit) => l.length - x_.1.toNat⟩
theorem k235_177 : fIndexFunc_module_impl_modAt_1.ok Tryz.prog 235 := Fct.of (S := fIndexFunc_module_impl_modAt_1) (L := fun ⟨l, u, _⟩ => fun | 2 => some (W_slices_IndexFunc_impl_Module_impl_Module_fIndexFunc_module_impl_modAt_1_2 l u) | _ => none) (kp := [0,1,4,5,7,8,9,16,1000009,1000016]) E177ok Tryz.func235 (by kernel_rfl) (by kernel_rfl) (by
  rintro ⟨(l : List SModule), (u : SAddr × PUnit), _⟩ hp
  refine ho (lpx (W_slices_IndexFunc_impl_Module_impl_Module_fIndexFunc_module_impl_modAt_1_2 l u) ((0 : Int), ()) fun (y1 : Int × PUnit) bk1 => .br (decide (y1.1 < (↑l.length : Int))) (.ob (inB y1.1 l.length) <| .cl fModAt1 (l.getD y1.1.toNat default, u.1, ()) fun z2 => .br (z2.1) (.lf fIndexFunc_module_impl_modAt_1 (y1.1, ())) (.ob (l = l) <| .ob (enc Ty.addr u.1 = enc Ty.addr u.1) <| .ob (Value.int IntKind.i64 (↑l.length : Int) = Value.int IntKind.i64 (↑l.length : Int)) <| .ob (bk1 (w1 y1.1, ())) <| .ok)) (.lf fIndexFunc_module_impl_modAt_1 ((-1 : Int), ()))) ?_
  refine lpx_i ?_ fun (y1 : Int × PUnit) i1 => br_i (fun h2 => ob_i ?_ fun o3 => cl_i trivial fun _ => (br_i (fun h4 => lfY ?_) (fun h4 => ob_i rfl fun _ => ob_i rfl fun _ => ob_i rfl fun _ => ob_i ?_ fun o5 => trivial))) (fun h2 => lfY ?_)
  all_goals
   try simp only [W_slices_IndexFunc_impl_Module_impl_Module_fIndexFunc_module_impl_modAt_1_2, fIndexFunc_module_impl_modAt_1, fModAt1, std, Nat.reduceAdd] at *
   try have hp2 := hp.2
   try have hp1 := hp.1
  all_goals first | trivial | omega | grind [wrapId', toNat1, drop_cons, drop_end, good_len, maxLen, fidx])
def E178 := E177.add 235 fIndexFunc_module_impl_modAt_1
theorem E178ok : EOk Tryz.prog E178 := E177ok.add k235_177
theorem k182_178 : fModAt.ok Tryz.prog 182 := Fct.o [2,3,4] E178ok Tryz.func182 (by
  rintro ⟨(p : SPage), (a : SAddr), _⟩ hp
  refine ho (.cl fIndexFunc_module_impl_modAt_1 (p.mods, (a, ()), ()) fun z2 => .lf fModAt (z2.1, ())) ?_
  refine cl_i ?_ fun o1 => (lfY ?_)
  all_goals
   try simp only [fIndexFunc_module_impl_modAt_1, fModAt, std, Nat.reduceAdd, fModAt1] at *
   try simp (disch := omega) only [wrapId', toNat1] at *
   try simp (disch := omega) only [if_pos, if_neg]
  all_goals first | trivial | omega | grind [wrapId', toNat1, drop_cons, drop_end, good_len, maxLen, fModAt1])
def E179 := E178.add 182 fModAt
theorem E179ok : EOk Tryz.prog E179 := E178ok.add k182_178
def isAsked (p : SPage) (a : SAddr) : Bool := p.slots.any (fun s => decide (s.to = a)) || p.mods.any (fun m => decide (m.to = a))
def fIsAsked : Fct := ⟨[.v (.el .page), .v (.el .addr)], [.el .bool], fun (x_ : SPage × SAddr × Unit) => x_.1.mods.length ≤ 1000000000000 ∧ x_.1.slots.length ≤ 1000000000000, fun (x_ : SPage × SAddr × Unit) => (isAsked x_.1 x_.2.1, ())⟩
abbrev W_spec_IsAsked_fIsAsked_2 (p : SPage) (a : SAddr) : LInv := ⟨[⟨.s, 5, true, .el .int⟩, ⟨.b, 2, false, .el .page⟩, ⟨.b, 3, true, .el .addr⟩], fun (z_ : Int × SPage × SAddr × Unit) (x_ : Int × SPage × SAddr × Unit) => ((0 ≤ x_.1 ∧ x_.1 ≤ p.slots.length ∧ (p.slots.drop x_.1.toNat).any (fun s => decide (s.to = a)) = p.slots.any (fun s => decide (s.to = a))) ∧ x_.2.1 = z_.2.1) ∧ x_.2.2.1 = z_.2.2.1, fun (x_ : Int × SPage × SAddr × Unit) => p.slots.length - x_.1.toNat⟩
theorem k70_179 : fIsAsked.ok Tryz.prog 70 := Fct.of (S := fIsAsked) (L := fun ⟨p, a, _⟩ => fun | 2 => some (W_spec_IsAsked_fIsAsked_2 p a) | _ => none) (kp := [2,3,4,5,10,20,1000010,1000020]) E179ok Tryz.func70 (by kernel_rfl) (by kernel_rfl) (by
  rintro ⟨(p : SPage), (a : SAddr), _⟩ hp
  refine ho (lpx (W_spec_IsAsked_fIsAsked_2 p a) ((0 : Int), (p, (a, ()))) fun (y1 : Int × SPage × SAddr × PUnit) bk1 => .br (decide (y1.1 < (↑y1.2.1.slots.length : Int))) (.ob (inB y1.1 y1.2.1.slots.length) <| .br ((y1.2.1.slots.getD y1.1.toNat default).to.host == y1.2.2.1.host && ((y1.2.1.slots.getD y1.1.toNat default).to.path == y1.2.2.1.path && true)) (.lf fIsAsked (true, ())) (.ob (bk1 (w1 y1.1, (y1.2.1, (y1.2.2.1, ())))) <| .ok)) (.cl fModAt (y1.2.1, y1.2.2.1, ()) fun z2 => .lf fIsAsked (decide (z2.1 ≥ 0), ()))) ?_
  refine lpx_i ?_ fun (y1 : Int × SPage × SAddr × PUnit) i1 => br_i (fun h2 => ob_i ?_ fun o3 => br_i (fun h4 => lfY ?_) (fun h4 => ob_i ?_ fun o5 => trivial)) (fun h2 => cl_i ?_ fun o6 => (lfY ?_))
  all_goals try simp only [beqAddr] at *
  all_goals
   have hmm := fidx_ge (fun m : SModule => decide (m.to = a)) p.mods 0 (by omega)
   try simp only [W_spec_IsAsked_fIsAsked_2, fIsAsked, fModAt, std, Nat.reduceAdd, isAsked, fModAt] at *
   try simp (disch := omega) only [wrapId', toNat1] at *
   try simp (disch := omega) only [if_pos, if_neg]
  all_goals first | trivial | omega | grind [wrapId', toNat1, drop_cons, drop_end, good_len, maxLen, isAsked, fModAt])
def E180 := E179.add 70 fIsAsked
theorem E180ok : EOk Tryz.prog E180 := E179ok.add k70_179
def fIsAsked1 : Fct := ⟨[.v (.el .slot), .p (.el .addr)], [.el .bool], fun (x_ : SSlot × SAddr × Unit) => True, fun (x_ : SSlot × SAddr × Unit) => (decide (x_.1.to = x_.2.1), ())⟩
theorem k184_180 : fIsAsked1.ok Tryz.prog 184 := Fct.o [1,2,3] E180ok Tryz.func184 (by
  rintro ⟨(s : SSlot), (a : SAddr), _⟩ hp
  refine ho (.lf fIsAsked1 (s.to.host == a.host && (s.to.path == a.path && true), ())) ?_
  refine lfY ?_
  all_goals
   try simp only [beqAddr] at *
   try simp only [fIsAsked1, std, Nat.reduceAdd] at *
   try simp (disch := omega) only [wrapId', toNat1] at *
   try simp (disch := omega) only [if_pos, if_neg]
  all_goals first | trivial | omega | grind [wrapId', toNat1, drop_cons, drop_end, good_len, maxLen])
def E181 := E180.add 184 fIsAsked1
theorem E181ok : EOk Tryz.prog E181 := E180ok.add k184_180
def fIndexFunc_slot_impl_IsAsked_1 : Fct := ⟨[aL .slot, .c 184 [.el .addr]], [rI], fun x => x.1.length ≤ 1000000000000000000 ∧ ∀ c, fIsAsked1.pre (c, x.2.1), fun x => (fidx (fun c => (fIsAsked1.fn (c, x.2.1)).1) x.1 0, ())⟩
abbrev W_slices_IndexFunc_impl_Slot_impl_Slot_fIndexFunc_slot_impl_IsAsked_1_2 (l : (List SSlot)) (u : (SAddr × Unit)) : LInv := ⟨[⟨.s, 8, true, .el .int⟩], fun _ (x_ : Int × Unit) => 0 ≤ x_.1 ∧ x_.1 ≤ l.length ∧ fidx (fun c => (fIsAsked1.fn (c, u)).1) l 0 = fidx (fun c => (fIsAsked1.fn (c, u)).1) (l.drop x_.1.toNat) x_.1, fun (x_ : Int × Unit) => l.length - x_.1.toNat⟩
theorem k237_181 : fIndexFunc_slot_impl_IsAsked_1.ok Tryz.prog 237 := Fct.of (S := fIndexFunc_slot_impl_IsAsked_1) (L := fun ⟨l, u, _⟩ => fun | 2 => some (W_slices_IndexFunc_impl_Slot_impl_Slot_fIndexFunc_slot_impl_IsAsked_1_2 l u) | _ => none) (kp := [0,1,4,5,7,8,9,16,1000009,1000016]) E181ok Tryz.func237 (by kernel_rfl) (by kernel_rfl) (by
  rintro ⟨(l : List SSlot), (u : SAddr × PUnit), _⟩ hp
  refine ho (lpx (W_slices_IndexFunc_impl_Slot_impl_Slot_fIndexFunc_slot_impl_IsAsked_1_2 l u) ((0 : Int), ()) fun (y1 : Int × PUnit) bk1 => .br (decide (y1.1 < (↑l.length : Int))) (.ob (inB y1.1 l.length) <| .cl fIsAsked1 (l.getD y1.1.toNat default, u.1, ()) fun z2 => .br (z2.1) (.lf fIndexFunc_slot_impl_IsAsked_1 (y1.1, ())) (.ob (l = l) <| .ob (enc Ty.addr u.1 = enc Ty.addr u.1) <| .ob (Value.int IntKind.i64 (↑l.length : Int) = Value.int IntKind.i64 (↑l.length : Int)) <| .ob (bk1 (w1 y1.1, ())) <| .ok)) (.lf fIndexFunc_slot_impl_IsAsked_1 ((-1 : Int), ()))) ?_
  refine lpx_i ?_ fun (y1 : Int × PUnit) i1 => br_i (fun h2 => ob_i ?_ fun o3 => cl_i trivial fun _ => (br_i (fun h4 => lfY ?_) (fun h4 => ob_i rfl fun _ => ob_i rfl fun _ => ob_i rfl fun _ => ob_i ?_ fun o5 => trivial))) (fun h2 => lfY ?_)
  all_goals
   try simp only [W_slices_IndexFunc_impl_Slot_impl_Slot_fIndexFunc_slot_impl_IsAsked_1_2, fIndexFunc_slot_impl_IsAsked_1, fIsAsked1, std, Nat.reduceAdd] at *
   try have hp2 := hp.2
   try have hp1 := hp.1
  all_goals first | trivial | omega | grind [wrapId', toNat1, drop_cons, drop_end, good_len, maxLen, fidx])
def E182 := E181.add 237 fIndexFunc_slot_impl_IsAsked_1
theorem E182ok : EOk Tryz.prog E182 := E181ok.add k237_181
def fContainsFunc_slot_impl_IsAsked_1 : Fct := ⟨[aL .slot, .c 184 [.el .addr]], [rB], fun x => x.1.length ≤ 1000000000000000000 ∧ ∀ c, fIsAsked1.pre (c, x.2.1), fun x => (x.1.any (fun c => (fIsAsked1.fn (c, x.2.1)).1), ())⟩
theorem k183_182 : fContainsFunc_slot_impl_IsAsked_1.ok Tryz.prog 183 := Fct.o [0,1,4] E182ok Tryz.func183 (by
  rintro ⟨(l : List SSlot), (u : SAddr × PUnit), _⟩ hp
  refine ho (.cl fIndexFunc_slot_impl_IsAsked_1 (l, (u.1, ()), ()) fun z2 => .lf fContainsFunc_slot_impl_IsAsked_1 (decide (z2.1 ≥ 0), ())) ?_
  refine cl_i ?_ fun o1 => (lfY ?_)
  all_goals try simp only [fContainsFunc_slot_impl_IsAsked_1, fIndexFunc_slot_impl_IsAsked_1, std, Nat.reduceAdd] at *
  all_goals first | trivial | omega | (rw [Bool.eq_iff_iff]; exact decide_eq_true_iff.trans (fidx_ge _ _ _ (by omega))))
def E183 := E182.add 183 fContainsFunc_slot_impl_IsAsked_1
theorem E183ok : EOk Tryz.prog E183 := E182ok.add k183_182
theorem k98_183 : fIsAsked.ok Tryz.prog 98 := Fct.o [2,3,4] E183ok Tryz.func98 (by
  rintro ⟨(p : SPage), (a : SAddr), _⟩ hp
  refine ho (.cl fModAt (p, a, ()) fun z2 => .br (decide (z2.1 ≥ 0)) (.lf fIsAsked (true, ())) (.cl fContainsFunc_slot_impl_IsAsked_1 (p.slots, (a, ()), ()) fun z3 => .lf fIsAsked (z3.1, ()))) ?_
  refine cl_i ?_ fun o1 => (br_i (fun h2 => lfY ?_) (fun h2 => cl_i ?_ fun o3 => (lfY ?_)))
  all_goals
   have hmm := fidx_ge (fun m : SModule => decide (m.to = a)) p.mods 0 (by omega)
   try simp only [fContainsFunc_slot_impl_IsAsked_1, fIsAsked, fModAt, std, Nat.reduceAdd, isAsked, fModAt, fIsAsked1] at *
   try simp (disch := omega) only [wrapId', toNat1] at *
   try simp (disch := omega) only [if_pos, if_neg]
  all_goals first | trivial | omega | grind [wrapId', toNat1, drop_cons, drop_end, good_len, maxLen, isAsked, fModAt, fIsAsked1])
def E184 := E183.add 98 fIsAsked
theorem E184ok : EOk Tryz.prog E184 := E183ok.add k98_183
theorem szServer_get {l : List SServer} {i : Nat} (h : i < l.length) : (l.getD i default).files.length + l.length ≤ szL szServer l := by
  have := szL_get szServer h
  have h2 := szL_len szFile (l.getD i default).files
  simp only [szServer] at this; omega
theorem szL_cat {α : Type} (f : α → Nat) (l m : List α) : szL f (l ++ m) = szL f l + szL f m := by simp [szL]; omega
theorem szL_drop {α : Type} (f : α → Nat) (l : List α) (n : Nat) : szL f (l.drop n) ≤ szL f l := by
  have h := szL_cat f (l.take n) (l.drop n)
  rw [List.take_append_drop] at h
  omega
def nameByte (b : UInt8) : Bool := 97 ≤ b.toNat && b.toNat ≤ 122
def bts (s : ByteArray) : List UInt8 := s.data.toList
theorem bts_len (s : ByteArray) : (bts s).length = s.size := rfl
theorem bts_at {s : ByteArray} {i : Nat} (h : i < s.size) : (bts s).drop i = s.data.getD i 0 :: (bts s).drop (i + 1) := by
  have h2 : i < s.data.size := h
  have e : s.data.getD i 0 = s.data[i] := by unfold Array.getD; rw [dif_pos h2]; rfl
  rw [List.drop_eq_getElem_cons (by rw [bts_len]; exact h), e]
  rfl
theorem bts_end {s : ByteArray} {i : Nat} (h : s.size ≤ i) : (bts s).drop i = [] := List.drop_of_length_le h
def allB (p : UInt8 → Bool) (l : List UInt8) : Bool := l.all p
theorem allB_at {p : UInt8 → Bool} {s : ByteArray} {i : Nat} (h : i < s.size) : allB p ((bts s).drop i) = (p (s.data.getD i 0) && allB p ((bts s).drop (i + 1))) := by rw [bts_at h]; rfl
theorem allB_end {p : UInt8 → Bool} {s : ByteArray} {i : Nat} (h : s.size ≤ i) : allB p ((bts s).drop i) = true := by rw [bts_end h]; rfl
def isName (s : ByteArray) : Bool := allB nameByte (bts s) && decide (1 ≤ s.size ∧ s.size ≤ 8)
def fIsName : Fct := ⟨[.v (.el .str)], [.el .bool], fun (x_ : ByteArray × Unit) => x_.1.size ≤ 1000000000000000000, fun (x_ : ByteArray × Unit) => (isName x_.1, ())⟩
abbrev W_spec_IsName_fIsName_2 (s : ByteArray) : LInv := ⟨[⟨.s, 3, true, .el .int⟩], fun _ (x_ : Int × Unit) => 0 ≤ x_.1 ∧ x_.1 ≤ s.size ∧ allB nameByte ((bts s).drop x_.1.toNat) = allB nameByte (bts s), fun (x_ : Int × Unit) => s.size - x_.1.toNat⟩
theorem k160_184 : fIsName.ok Tryz.prog 160 := Fct.of (S := fIsName) (L := fun ⟨s, _⟩ => fun | 2 => some (W_spec_IsName_fIsName_2 s) | _ => none) (kp := [0,2,3,7,19,1000007,1000019]) E184ok Tryz.func160 (by kernel_rfl) (by kernel_rfl) (by
  rintro ⟨(s : ByteArray), _⟩ hp
  refine ho (lpx (W_spec_IsName_fIsName_2 s) ((0 : Int), ()) fun (y1 : Int × PUnit) bk1 => .br (decide (y1.1 < (↑s.size : Int))) (.ob (0 ≤ y1.1 ∧ y1.1 < (↑s.size : Int)) <| .br (decide ((↑(s.data.getD y1.1.toNat 0).toNat : Int) < 97)) (.lf fIsName (false, ())) (.ob (0 ≤ y1.1 ∧ y1.1 < (↑s.size : Int)) <| .br (decide ((↑(s.data.getD y1.1.toNat 0).toNat : Int) > 122)) (.lf fIsName (false, ())) (.ob (Value.string s = Value.string s) <| .ob (bk1 (w1 y1.1, ())) <| .ok))) (.cl fInRange ((↑s.size : Int), (1 : Int), (8 : Int), ()) fun z2 => .lf fIsName (z2.1, ()))) ?_
  refine lpx_i ?_ fun (y1 : Int × PUnit) i1 => br_i (fun h2 => ob_i ?_ fun o3 => br_i (fun h4 => lfY ?_) (fun h4 => ob_i ?_ fun o5 => br_i (fun h6 => lfY ?_) (fun h6 => ob_i rfl fun _ => ob_i ?_ fun o7 => trivial))) (fun h2 => cl_i trivial fun _ => (lfY ?_))
  all_goals
   try simp only [W_spec_IsName_fIsName_2, fInRange, fIsName, std, Nat.reduceAdd, isName, nameByte, fInRange, inRange, allB_at, allB_end] at *
   try simp (disch := omega) only [wrapId', toNat1] at *
   try simp (disch := omega) only [if_pos, if_neg]
  all_goals first | trivial | omega | grind [wrapId', toNat1, good_len, maxLen, isName, nameByte, fInRange, inRange, allB_at, allB_end])
def E185 := E184.add 160 fIsName
theorem E185ok : EOk Tryz.prog E185 := E184ok.add k160_184
abbrev W_impl_IsName_fIsName_2 (s : ByteArray) : LInv := ⟨[⟨.s, 3, true, .el .int⟩], fun _ (x_ : Int × Unit) => 0 ≤ x_.1 ∧ x_.1 ≤ s.size ∧ allB nameByte ((bts s).drop x_.1.toNat) = allB nameByte (bts s), fun (x_ : Int × Unit) => s.size - x_.1.toNat⟩
theorem k186_185 : fIsName.ok Tryz.prog 186 := Fct.of (S := fIsName) (L := fun ⟨s, _⟩ => fun | 2 => some (W_impl_IsName_fIsName_2 s) | _ => none) (kp := [0,2,3,7,19,1000007,1000019]) E185ok Tryz.func186 (by kernel_rfl) (by kernel_rfl) (by
  rintro ⟨(s : ByteArray), _⟩ hp
  refine ho (lpx (W_impl_IsName_fIsName_2 s) ((0 : Int), ()) fun (y1 : Int × PUnit) bk1 => .br (decide (y1.1 < (↑s.size : Int))) (.ob (0 ≤ y1.1 ∧ y1.1 < (↑s.size : Int)) <| .br (decide ((↑(s.data.getD y1.1.toNat 0).toNat : Int) < 97)) (.lf fIsName (false, ())) (.ob (0 ≤ y1.1 ∧ y1.1 < (↑s.size : Int)) <| .br (decide ((↑(s.data.getD y1.1.toNat 0).toNat : Int) > 122)) (.lf fIsName (false, ())) (.ob (Value.string s = Value.string s) <| .ob (bk1 (w1 y1.1, ())) <| .ok))) (.cl fInRange ((↑s.size : Int), (1 : Int), (8 : Int), ()) fun z2 => .lf fIsName (z2.1, ()))) ?_
  refine lpx_i ?_ fun (y1 : Int × PUnit) i1 => br_i (fun h2 => ob_i ?_ fun o3 => br_i (fun h4 => lfY ?_) (fun h4 => ob_i ?_ fun o5 => br_i (fun h6 => lfY ?_) (fun h6 => ob_i rfl fun _ => ob_i ?_ fun o7 => trivial))) (fun h2 => cl_i trivial fun _ => (lfY ?_))
  all_goals
   try simp only [W_impl_IsName_fIsName_2, fInRange, fIsName, std, Nat.reduceAdd, isName, nameByte, fInRange, inRange, allB_at, allB_end] at *
   try simp (disch := omega) only [wrapId', toNat1] at *
   try simp (disch := omega) only [if_pos, if_neg]
  all_goals first | trivial | omega | grind [wrapId', toNat1, good_len, maxLen, isName, nameByte, fInRange, inRange, allB_at, allB_end])
def E186 := E185.add 186 fIsName
theorem E186ok : EOk Tryz.prog E186 := E185ok.add k186_185
def valByte (b : UInt8) : Bool := (97 ≤ b.toNat && b.toNat ≤ 122) || (48 ≤ b.toNat && b.toNat ≤ 57) || b.toNat == 47
def isValue (s : ByteArray) : Bool := allB valByte (bts s) && decide (1 ≤ s.size ∧ s.size ≤ 20)
def fIsValue : Fct := ⟨[.v (.el .str)], [.el .bool], fun (x_ : ByteArray × Unit) => x_.1.size ≤ 1000000000000000000, fun (x_ : ByteArray × Unit) => (isValue x_.1, ())⟩
abbrev W_spec_IsValue_fIsValue_2 (s : ByteArray) : LInv := ⟨[⟨.s, 3, true, .el .int⟩], fun _ (x_ : Int × Unit) => 0 ≤ x_.1 ∧ x_.1 ≤ s.size ∧ allB valByte ((bts s).drop x_.1.toNat) = allB valByte (bts s), fun (x_ : Int × Unit) => s.size - x_.1.toNat⟩
theorem k220_186 : fIsValue.ok Tryz.prog 220 := Fct.of (S := fIsValue) (L := fun ⟨s, _⟩ => fun | 2 => some (W_spec_IsValue_fIsValue_2 s) | _ => none) (kp := [0,2,3,7,37,1000007,1000037]) E186ok Tryz.func220 (by kernel_rfl) (by kernel_rfl) (by
  rintro ⟨(s : ByteArray), _⟩ hp
  refine ho (lpx (W_spec_IsValue_fIsValue_2 s) ((0 : Int), ()) fun (y1 : Int × PUnit) bk1 => .br (decide (y1.1 < (↑s.size : Int))) (.ob (0 ≤ y1.1 ∧ y1.1 < (↑s.size : Int)) <| .br (decide ((↑(s.data.getD y1.1.toNat 0).toNat : Int) < 97)) (.ob (0 ≤ y1.1 ∧ y1.1 < (↑s.size : Int)) <| .br (decide ((↑(s.data.getD y1.1.toNat 0).toNat : Int) < 48)) (.ob (0 ≤ y1.1 ∧ y1.1 < (↑s.size : Int)) <| .br ((↑(s.data.getD y1.1.toNat 0).toNat : Int) != 47) (.lf fIsValue (false, ())) (.ob (Value.string s = Value.string s) <| .ob (bk1 (w1 y1.1, ())) <| .ok)) (.ob (0 ≤ y1.1 ∧ y1.1 < (↑s.size : Int)) <| .br (decide ((↑(s.data.getD y1.1.toNat 0).toNat : Int) > 57)) (.ob (0 ≤ y1.1 ∧ y1.1 < (↑s.size : Int)) <| .br ((↑(s.data.getD y1.1.toNat 0).toNat : Int) != 47) (.lf fIsValue (false, ())) (.ob (Value.string s = Value.string s) <| .ob (bk1 (w1 y1.1, ())) <| .ok)) (.ob (Value.string s = Value.string s) <| .ob (bk1 (w1 y1.1, ())) <| .ok))) (.ob (0 ≤ y1.1 ∧ y1.1 < (↑s.size : Int)) <| .br (decide ((↑(s.data.getD y1.1.toNat 0).toNat : Int) > 122)) (.ob (0 ≤ y1.1 ∧ y1.1 < (↑s.size : Int)) <| .br (decide ((↑(s.data.getD y1.1.toNat 0).toNat : Int) < 48)) (.ob (0 ≤ y1.1 ∧ y1.1 < (↑s.size : Int)) <| .br ((↑(s.data.getD y1.1.toNat 0).toNat : Int) != 47) (.lf fIsValue (false, ())) (.ob (Value.string s = Value.string s) <| .ob (bk1 (w1 y1.1, ())) <| .ok)) (.ob (0 ≤ y1.1 ∧ y1.1 < (↑s.size : Int)) <| .br (decide ((↑(s.data.getD y1.1.toNat 0).toNat : Int) > 57)) (.ob (0 ≤ y1.1 ∧ y1.1 < (↑s.size : Int)) <| .br ((↑(s.data.getD y1.1.toNat 0).toNat : Int) != 47) (.lf fIsValue (false, ())) (.ob (Value.string s = Value.string s) <| .ob (bk1 (w1 y1.1, ())) <| .ok)) (.ob (Value.string s = Value.string s) <| .ob (bk1 (w1 y1.1, ())) <| .ok))) (.ob (Value.string s = Value.string s) <| .ob (bk1 (w1 y1.1, ())) <| .ok))) (.cl fInRange ((↑s.size : Int), (1 : Int), (20 : Int), ()) fun z2 => .lf fIsValue (z2.1, ()))) ?_
  refine lpx_i ?_ fun (y1 : Int × PUnit) i1 => br_i (fun h2 => ob_i ?_ fun o3 => br_i (fun h4 => ob_i ?_ fun o5 => br_i (fun h6 => ob_i ?_ fun o7 => br_i (fun h8 => lfY ?_) (fun h8 => ob_i rfl fun _ => ob_i ?_ fun o9 => trivial)) (fun h6 => ob_i ?_ fun o10 => br_i (fun h11 => ob_i ?_ fun o12 => br_i (fun h13 => lfY ?_) (fun h13 => ob_i rfl fun _ => ob_i ?_ fun o14 => trivial)) (fun h11 => ob_i rfl fun _ => ob_i ?_ fun o15 => trivial))) (fun h4 => ob_i ?_ fun o16 => br_i (fun h17 => ob_i ?_ fun o18 => br_i (fun h19 => ob_i ?_ fun o20 => br_i (fun h21 => lfY ?_) (fun h21 => ob_i rfl fun _ => ob_i ?_ fun o22 => trivial)) (fun h19 => ob_i ?_ fun o23 => br_i (fun h24 => ob_i ?_ fun o25 => br_i (fun h26 => lfY ?_) (fun h26 => ob_i rfl fun _ => ob_i ?_ fun o27 => trivial)) (fun h24 => ob_i rfl fun _ => ob_i ?_ fun o28 => trivial))) (fun h17 => ob_i rfl fun _ => ob_i ?_ fun o29 => trivial))) (fun h2 => cl_i trivial fun _ => (lfY ?_))
  all_goals
   try simp only [W_spec_IsValue_fIsValue_2, fInRange, fIsValue, std, Nat.reduceAdd, isValue, valByte, fInRange, inRange, allB_at, allB_end] at *
   try simp (disch := omega) only [wrapId', toNat1] at *
   try simp (disch := omega) only [if_pos, if_neg]
  all_goals first | trivial | omega | grind [wrapId', toNat1, good_len, maxLen, isValue, valByte, fInRange, inRange, allB_at, allB_end])
def E187 := E186.add 220 fIsValue
theorem E187ok : EOk Tryz.prog E187 := E186ok.add k220_186
abbrev W_impl_IsValue_fIsValue_2 (s : ByteArray) : LInv := ⟨[⟨.s, 3, true, .el .int⟩], fun _ (x_ : Int × Unit) => 0 ≤ x_.1 ∧ x_.1 ≤ s.size ∧ allB valByte ((bts s).drop x_.1.toNat) = allB valByte (bts s), fun (x_ : Int × Unit) => s.size - x_.1.toNat⟩
theorem k233_187 : fIsValue.ok Tryz.prog 233 := Fct.of (S := fIsValue) (L := fun ⟨s, _⟩ => fun | 2 => some (W_impl_IsValue_fIsValue_2 s) | _ => none) (kp := [0,2,3,7,38,1000007,1000038]) E187ok Tryz.func233 (by kernel_rfl) (by kernel_rfl) (by
  rintro ⟨(s : ByteArray), _⟩ hp
  refine ho (lpx (W_impl_IsValue_fIsValue_2 s) ((0 : Int), ()) fun (y1 : Int × PUnit) bk1 => .br (decide (y1.1 < (↑s.size : Int))) (.ob (0 ≤ y1.1 ∧ y1.1 < (↑s.size : Int)) <| .br (decide ((↑(s.data.getD y1.1.toNat 0).toNat : Int) ≥ 97)) (.ob (0 ≤ y1.1 ∧ y1.1 < (↑s.size : Int)) <| .br (decide ((↑(s.data.getD y1.1.toNat 0).toNat : Int) ≤ 122)) (.br (!true) (.lf fIsValue (false, ())) (.ob (Value.string s = Value.string s) <| .ob (bk1 (w1 y1.1, ())) <| .ok)) (.ob (0 ≤ y1.1 ∧ y1.1 < (↑s.size : Int)) <| .br (decide ((↑(s.data.getD y1.1.toNat 0).toNat : Int) ≥ 48)) (.ob (0 ≤ y1.1 ∧ y1.1 < (↑s.size : Int)) <| .br (decide ((↑(s.data.getD y1.1.toNat 0).toNat : Int) ≤ 57)) (.br (!true) (.lf fIsValue (false, ())) (.ob (Value.string s = Value.string s) <| .ob (bk1 (w1 y1.1, ())) <| .ok)) (.ob (0 ≤ y1.1 ∧ y1.1 < (↑s.size : Int)) <| .br (!(↑(s.data.getD y1.1.toNat 0).toNat : Int) == 47) (.lf fIsValue (false, ())) (.ob (Value.string s = Value.string s) <| .ob (bk1 (w1 y1.1, ())) <| .ok))) (.ob (0 ≤ y1.1 ∧ y1.1 < (↑s.size : Int)) <| .br (!(↑(s.data.getD y1.1.toNat 0).toNat : Int) == 47) (.lf fIsValue (false, ())) (.ob (Value.string s = Value.string s) <| .ob (bk1 (w1 y1.1, ())) <| .ok)))) (.ob (0 ≤ y1.1 ∧ y1.1 < (↑s.size : Int)) <| .br (decide ((↑(s.data.getD y1.1.toNat 0).toNat : Int) ≥ 48)) (.ob (0 ≤ y1.1 ∧ y1.1 < (↑s.size : Int)) <| .br (decide ((↑(s.data.getD y1.1.toNat 0).toNat : Int) ≤ 57)) (.br (!true) (.lf fIsValue (false, ())) (.ob (Value.string s = Value.string s) <| .ob (bk1 (w1 y1.1, ())) <| .ok)) (.ob (0 ≤ y1.1 ∧ y1.1 < (↑s.size : Int)) <| .br (!(↑(s.data.getD y1.1.toNat 0).toNat : Int) == 47) (.lf fIsValue (false, ())) (.ob (Value.string s = Value.string s) <| .ob (bk1 (w1 y1.1, ())) <| .ok))) (.ob (0 ≤ y1.1 ∧ y1.1 < (↑s.size : Int)) <| .br (!(↑(s.data.getD y1.1.toNat 0).toNat : Int) == 47) (.lf fIsValue (false, ())) (.ob (Value.string s = Value.string s) <| .ob (bk1 (w1 y1.1, ())) <| .ok)))) (.cl fInRange ((↑s.size : Int), (1 : Int), (20 : Int), ()) fun z2 => .lf fIsValue (z2.1, ()))) ?_
  refine lpx_i ?_ fun (y1 : Int × PUnit) i1 => br_i (fun h2 => ob_i ?_ fun o3 => br_i (fun h4 => ob_i ?_ fun o5 => br_i (fun h6 => br_i (fun h7 => lfY ?_) (fun h7 => ob_i rfl fun _ => ob_i ?_ fun o8 => trivial)) (fun h6 => ob_i ?_ fun o9 => br_i (fun h10 => ob_i ?_ fun o11 => br_i (fun h12 => br_i (fun h13 => lfY ?_) (fun h13 => ob_i rfl fun _ => ob_i ?_ fun o14 => trivial)) (fun h12 => ob_i ?_ fun o15 => br_i (fun h16 => lfY ?_) (fun h16 => ob_i rfl fun _ => ob_i ?_ fun o17 => trivial))) (fun h10 => ob_i ?_ fun o18 => br_i (fun h19 => lfY ?_) (fun h19 => ob_i rfl fun _ => ob_i ?_ fun o20 => trivial)))) (fun h4 => ob_i ?_ fun o21 => br_i (fun h22 => ob_i ?_ fun o23 => br_i (fun h24 => br_i (fun h25 => lfY ?_) (fun h25 => ob_i rfl fun _ => ob_i ?_ fun o26 => trivial)) (fun h24 => ob_i ?_ fun o27 => br_i (fun h28 => lfY ?_) (fun h28 => ob_i rfl fun _ => ob_i ?_ fun o29 => trivial))) (fun h22 => ob_i ?_ fun o30 => br_i (fun h31 => lfY ?_) (fun h31 => ob_i rfl fun _ => ob_i ?_ fun o32 => trivial)))) (fun h2 => cl_i trivial fun _ => (lfY ?_))
  all_goals
   try simp only [W_impl_IsValue_fIsValue_2, fInRange, fIsValue, std, Nat.reduceAdd, isValue, valByte, fInRange, inRange, allB_at, allB_end] at *
   try simp (disch := omega) only [wrapId', toNat1] at *
   try simp (disch := omega) only [if_pos, if_neg]
  all_goals first | trivial | omega | grind [wrapId', toNat1, good_len, maxLen, isValue, valByte, fInRange, inRange, allB_at, allB_end])
def E188 := E187.add 233 fIsValue
theorem E188ok : EOk Tryz.prog E188 := E187ok.add k233_187
def fIsAddr : Fct := ⟨[.v (.el .addr)], [.el .bool], fun (x_ : SAddr × Unit) => x_.1.host.size ≤ 1000000000000000000 ∧ x_.1.path.size ≤ 1000000000000000000, fun (x_ : SAddr × Unit) => (isName x_.1.host && isName x_.1.path, ())⟩
theorem k72_188 : fIsAddr.ok Tryz.prog 72 := Fct.o [1,2] E188ok Tryz.func72 (by
  rintro ⟨(a : SAddr), _⟩ hp
  refine ho (.cl fIsName (a.host, ()) fun z2 => .br (z2.1) (.cl fIsName (a.path, ()) fun z3 => .lf fIsAddr (z3.1, ())) (.lf fIsAddr (false, ()))) ?_
  refine cl_i ?_ fun o1 => (br_i (fun h2 => cl_i ?_ fun o3 => (lfY ?_)) (fun h2 => lfY ?_))
  all_goals
   try simp only [fIsAddr, fIsName, std, Nat.reduceAdd, fIsName] at *
   try simp (disch := omega) only [wrapId', toNat1] at *
   try simp (disch := omega) only [if_pos, if_neg]
  all_goals first | trivial | omega | grind [wrapId', toNat1, drop_cons, drop_end, good_len, maxLen, fIsName])
def E189 := E188.add 72 fIsAddr
theorem E189ok : EOk Tryz.prog E189 := E188ok.add k72_188
theorem k104_189 : fIsAddr.ok Tryz.prog 104 := Fct.o [1,2] E189ok Tryz.func104 (by
  rintro ⟨(a : SAddr), _⟩ hp
  refine ho (.cl fIsName (a.host, ()) fun z2 => .br (z2.1) (.cl fIsName (a.path, ()) fun z3 => .lf fIsAddr (z3.1, ())) (.lf fIsAddr (false, ()))) ?_
  refine cl_i ?_ fun o1 => (br_i (fun h2 => cl_i ?_ fun o3 => (lfY ?_)) (fun h2 => lfY ?_))
  all_goals
   try simp only [fIsAddr, fIsName, std, Nat.reduceAdd, fIsName] at *
   try simp (disch := omega) only [wrapId', toNat1] at *
   try simp (disch := omega) only [if_pos, if_neg]
  all_goals first | trivial | omega | grind [wrapId', toNat1, drop_cons, drop_end, good_len, maxLen, fIsName])
def E190 := E189.add 104 fIsAddr
theorem E190ok : EOk Tryz.prog E190 := E189ok.add k104_189
theorem szStr_get {l : List ByteArray} {i : Nat} (h : i < l.length) : (l.getD i default).size + l.length ≤ szL szString l := by
  have := szL_get szString h
  simp only [szString] at this; omega
def fNames : Fct := ⟨[.v (.sl .str)], [.el .bool], fun (x_ : (List ByteArray) × Unit) => szL szString x_.1 ≤ 1099511627776, fun (x_ : (List ByteArray) × Unit) => (x_.1.all isName && decide (x_.1.length ≤ 4), ())⟩
abbrev W_spec_l9Names_fNames_2 (l : (List ByteArray)) : LInv := ⟨[⟨.s, 3, true, .el .int⟩], fun _ (x_ : Int × Unit) => 0 ≤ x_.1 ∧ x_.1 ≤ l.length ∧ (l.drop x_.1.toNat).all isName = l.all isName, fun (x_ : Int × Unit) => l.length - x_.1.toNat⟩
theorem k273_190 : fNames.ok Tryz.prog 273 := Fct.of (S := fNames) (L := fun ⟨l, _⟩ => fun | 2 => some (W_spec_l9Names_fNames_2 l) | _ => none) (kp := [0,2,3,7,15,1000007,1000015]) E190ok Tryz.func273 (by kernel_rfl) (by kernel_rfl) (by
  rintro ⟨(l : List ByteArray), _⟩ hp
  refine ho (lpx (W_spec_l9Names_fNames_2 l) ((0 : Int), ()) fun (y1 : Int × PUnit) bk1 => .br (decide (y1.1 < (↑l.length : Int))) (.ob (inB y1.1 l.length) <| .cl fIsName (l.getD y1.1.toNat default, ()) fun z2 => .br (!z2.1) (.lf fNames (false, ())) (.ob (l = l) <| .ob (bk1 (w1 y1.1, ())) <| .ok)) (.lf fNames (decide ((↑l.length : Int) ≤ 4), ()))) ?_
  refine lpx_i ?_ fun (y1 : Int × PUnit) i1 => br_i (fun h2 => ob_i ?_ fun o3 => cl_i ?_ fun o4 => (br_i (fun h5 => lfY ?_) (fun h5 => ob_i rfl fun _ => ob_i ?_ fun o6 => trivial))) (fun h2 => lfY ?_)
  all_goals
   have hl := szL_len szString l
   have hg : ∀ i, i < l.length → (l.getD i default).size ≤ 1000000000000000000 := fun i h => by have := szStr_get h; have hp2 : szL szString l ≤ 1099511627776 := hp; omega
   try simp only [W_spec_l9Names_fNames_2, fIsName, fNames, std, Nat.reduceAdd, fIsName] at *
   try simp (disch := omega) only [wrapId', toNat1] at *
   try simp (disch := omega) only [if_pos, if_neg]
  all_goals first | trivial | omega | grind [wrapId', toNat1, drop_cons, drop_end, good_len, maxLen, fIsName])
def E191 := E190.add 273 fNames
theorem E191ok : EOk Tryz.prog E191 := E190ok.add k273_190
def fAreHosts1 : Fct := ⟨[.v (.el .str)], [.el .bool], fun (x_ : ByteArray × Unit) => x_.1.size ≤ 1000000000000000000, fun (x_ : ByteArray × Unit) => (!isName x_.1, ())⟩
theorem k291_191 : fAreHosts1.ok Tryz.prog 291 := Fct.o [0,2] E191ok Tryz.func291 (by
  rintro ⟨(s : ByteArray), _⟩ hp
  refine ho (.cl fIsName (s, ()) fun z2 => .lf fAreHosts1 (!z2.1, ())) ?_
  refine cl_i ?_ fun o1 => (lfY ?_)
  all_goals
   try simp only [fAreHosts1, fIsName, std, Nat.reduceAdd, fIsName] at *
   try simp (disch := omega) only [wrapId', toNat1] at *
   try simp (disch := omega) only [if_pos, if_neg]
  all_goals first | trivial | omega | grind [wrapId', toNat1, drop_cons, drop_end, good_len, maxLen, fIsName])
def E192 := E191.add 291 fAreHosts1
theorem E192ok : EOk Tryz.prog E192 := E191ok.add k291_191
def fIndexFunc_str_impl_areHosts_1 : Fct := ⟨[aL .str, .c 291 []], [rI], fun x => x.1.length ≤ 1000000000000000000 ∧ ∀ i, i < x.1.length → fAreHosts1.pre (x.1.getD i default, x.2.1), fun x => (fidx (fun c => (fAreHosts1.fn (c, x.2.1)).1) x.1 0, ())⟩
abbrev W_slices_IndexFunc_string_string_fIndexFunc_str_impl_areHosts_1_2 (l : (List ByteArray)) (u : (Unit)) : LInv := ⟨[⟨.s, 8, true, .el .int⟩], fun _ (x_ : Int × Unit) => 0 ≤ x_.1 ∧ x_.1 ≤ l.length ∧ fidx (fun c => (fAreHosts1.fn (c, u)).1) l 0 = fidx (fun c => (fAreHosts1.fn (c, u)).1) (l.drop x_.1.toNat) x_.1, fun (x_ : Int × Unit) => l.length - x_.1.toNat⟩
theorem k297_192 : fIndexFunc_str_impl_areHosts_1.ok Tryz.prog 297 := Fct.of (S := fIndexFunc_str_impl_areHosts_1) (L := fun ⟨l, u, _⟩ => fun | 2 => some (W_slices_IndexFunc_string_string_fIndexFunc_str_impl_areHosts_1_2 l u) | _ => none) (kp := [0,1,4,5,7,8,9,16,1000009,1000016]) E192ok Tryz.func297 (by kernel_rfl) (by kernel_rfl) (by
  rintro ⟨(l : List ByteArray), (u : PUnit), _⟩ hp
  refine ho (lpx (W_slices_IndexFunc_string_string_fIndexFunc_str_impl_areHosts_1_2 l u) ((0 : Int), ()) fun (y1 : Int × PUnit) bk1 => .br (decide (y1.1 < (↑l.length : Int))) (.ob (inB y1.1 l.length) <| .cl fAreHosts1 (l.getD y1.1.toNat default, ()) fun z2 => .br (z2.1) (.lf fIndexFunc_str_impl_areHosts_1 (y1.1, ())) (.ob (l = l) <| .ob (Value.int IntKind.i64 (↑l.length : Int) = Value.int IntKind.i64 (↑l.length : Int)) <| .ob (bk1 (w1 y1.1, ())) <| .ok)) (.lf fIndexFunc_str_impl_areHosts_1 ((-1 : Int), ()))) ?_
  refine lpx_i ?_ fun (y1 : Int × PUnit) i1 => br_i (fun h2 => ob_i ?_ fun o3 => cl_i ?_ fun o4 => (br_i (fun h5 => lfY ?_) (fun h5 => ob_i rfl fun _ => ob_i rfl fun _ => ob_i ?_ fun o6 => trivial))) (fun h2 => lfY ?_)
  all_goals
   try simp only [W_slices_IndexFunc_string_string_fIndexFunc_str_impl_areHosts_1_2, fAreHosts1, fIndexFunc_str_impl_areHosts_1, std, Nat.reduceAdd] at *
   try have hp2 := hp.2
   try have hp1 := hp.1
  all_goals first | trivial | omega | exact hp2 _ (by omega) | grind [wrapId', toNat1, drop_cons, drop_end, good_len, maxLen, fidx])
def E193 := E192.add 297 fIndexFunc_str_impl_areHosts_1
theorem E193ok : EOk Tryz.prog E193 := E192ok.add k297_192
def fContainsFunc_str_impl_areHosts_1 : Fct := ⟨[aL .str, .c 291 []], [rB], fun x => x.1.length ≤ 1000000000000000000 ∧ ∀ i, i < x.1.length → fAreHosts1.pre (x.1.getD i default, x.2.1), fun x => (x.1.any (fun c => (fAreHosts1.fn (c, x.2.1)).1), ())⟩
theorem k290_193 : fContainsFunc_str_impl_areHosts_1.ok Tryz.prog 290 := Fct.o [0,1,4] E193ok Tryz.func290 (by
  rintro ⟨(l : List ByteArray), (u : PUnit), _⟩ hp
  refine ho (.cl fIndexFunc_str_impl_areHosts_1 (l, (), ()) fun z2 => .lf fContainsFunc_str_impl_areHosts_1 (decide (z2.1 ≥ 0), ())) ?_
  refine cl_i ?_ fun o1 => (lfY ?_)
  all_goals try simp only [fContainsFunc_str_impl_areHosts_1, fIndexFunc_str_impl_areHosts_1, std, Nat.reduceAdd] at *
  all_goals first | trivial | omega | exact hp | (rw [Bool.eq_iff_iff]; exact decide_eq_true_iff.trans (fidx_ge _ _ _ (by omega))))
def E194 := E193.add 290 fContainsFunc_str_impl_areHosts_1
theorem E194ok : EOk Tryz.prog E194 := E193ok.add k290_193
theorem k279_194 : fNames.ok Tryz.prog 279 := Fct.o [0,2] E194ok Tryz.func279 (by
  rintro ⟨(l : List ByteArray), _⟩ hp
  refine ho (.br (decide ((↑(List.length l) : Int) ≤ 4)) (.cl fContainsFunc_str_impl_areHosts_1 (l, (), ()) fun z2 => .lf fNames (!z2.1, ())) (.lf fNames (false, ()))) ?_
  refine br_i (fun h1 => cl_i ?_ fun o2 => (lfY ?_)) (fun h1 => lfY ?_)
  all_goals
   have hl := szL_len szString l
   have hg : ∀ i, i < l.length → (l.getD i default).size ≤ 1000000000000000000 := fun i h => by have := szStr_get h; have hp2 : szL szString l ≤ 1099511627776 := hp; omega
   have ha : (l.any fun c => !isName c) = !(l.all isName) := by simp [List.any_eq_not_all_not]
   try simp only [fContainsFunc_str_impl_areHosts_1, fNames, std, Nat.reduceAdd, fContainsFunc_str_impl_areHosts_1, fAreHosts1] at *
   try simp (disch := omega) only [wrapId', toNat1] at *
   try simp (disch := omega) only [if_pos, if_neg]
  all_goals first | trivial | omega | grind [wrapId', toNat1, drop_cons, drop_end, good_len, maxLen, fContainsFunc_str_impl_areHosts_1, fAreHosts1])
def E195 := E194.add 279 fNames
theorem E195ok : EOk Tryz.prog E195 := E194ok.add k279_194
def isPolicy (p : SPolicy) : Bool := if p.set_ then p.scripts.all isName && decide (p.scripts.length ≤ 4) && (p.styles.all isName && decide (p.styles.length ≤ 4)) && (p.images.all isName && decide (p.images.length ≤ 4)) && (decide (p.nonce = ⟨#[]⟩) || isValue p.nonce) else decide (p.scripts.length = 0 ∧ p.styles.length = 0 ∧ p.images.length = 0 ∧ p.nonce = ⟨#[]⟩)
def fIsPolicy : Fct := ⟨[.v (.el .policy)], [.el .bool], fun (x_ : SPolicy × Unit) => szPolicy x_.1 ≤ 1099511627776, fun (x_ : SPolicy × Unit) => (isPolicy x_.1, ())⟩
theorem k266_195 : fIsPolicy.ok Tryz.prog 266 := Fct.o [1,2,5,1000005] E195ok Tryz.func266 (by
  rintro ⟨(p : SPolicy), _⟩ hp
  refine ho (.br (!p.set_) (.br ((↑p.scripts.length : Int) == 0) (.br ((↑p.styles.length : Int) == 0) (.br ((↑p.images.length : Int) == 0) (.lf fIsPolicy (p.nonce.toList == (⟨#[]⟩ : ByteArray).toList, ())) (.lf fIsPolicy (false, ()))) (.lf fIsPolicy (false, ()))) (.lf fIsPolicy (false, ()))) (.cl fNames (p.scripts, ()) fun z2 => .br (z2.1) (.cl fNames (p.styles, ()) fun z3 => .br (z3.1) (.cl fNames (p.images, ()) fun z4 => .br (z4.1) (.br (p.nonce.toList == (⟨#[]⟩ : ByteArray).toList) (.lf fIsPolicy (true, ())) (.cl fIsValue (p.nonce, ()) fun z5 => .lf fIsPolicy (z5.1, ()))) (.lf fIsPolicy (false, ()))) (.lf fIsPolicy (false, ()))) (.lf fIsPolicy (false, ())))) ?_
  refine br_i (fun h1 => br_i (fun h2 => br_i (fun h3 => br_i (fun h4 => lfY ?_) (fun h4 => lfY ?_)) (fun h3 => lfY ?_)) (fun h2 => lfY ?_)) (fun h1 => cl_i ?_ fun o5 => (br_i (fun h6 => cl_i ?_ fun o7 => (br_i (fun h8 => cl_i ?_ fun o9 => (br_i (fun h10 => br_i (fun h11 => lfY ?_) (fun h11 => cl_i ?_ fun o12 => (lfY ?_))) (fun h10 => lfY ?_))) (fun h8 => lfY ?_))) (fun h6 => lfY ?_)))
  all_goals
   try simp only [fIsPolicy, fIsValue, fNames, std, Nat.reduceAdd, isPolicy, fNames, fIsValue, szPolicy] at *
   try simp (disch := omega) only [wrapId', toNat1] at *
   try simp (disch := omega) only [if_pos, if_neg]
  all_goals first | trivial | omega | grind [wrapId', toNat1, drop_cons, drop_end, good_len, maxLen, isPolicy, fNames, fIsValue, szPolicy])
def E196 := E195.add 266 fIsPolicy
theorem E196ok : EOk Tryz.prog E196 := E195ok.add k266_195
theorem k271_196 : fIsPolicy.ok Tryz.prog 271 := Fct.o [1,2,5,1000005] E196ok Tryz.func271 (by
  rintro ⟨(p : SPolicy), _⟩ hp
  refine ho (.br (!p.set_) (.br ((↑p.scripts.length : Int) == 0) (.br ((↑p.styles.length : Int) == 0) (.br ((↑p.images.length : Int) == 0) (.lf fIsPolicy (p.nonce.toList == (⟨#[]⟩ : ByteArray).toList, ())) (.lf fIsPolicy (false, ()))) (.lf fIsPolicy (false, ()))) (.lf fIsPolicy (false, ()))) (.cl fNames (p.scripts, ()) fun z2 => .br (z2.1) (.cl fNames (p.styles, ()) fun z3 => .br (z3.1) (.cl fNames (p.images, ()) fun z4 => .br (z4.1) (.br (p.nonce.toList == (⟨#[]⟩ : ByteArray).toList) (.lf fIsPolicy (true, ())) (.cl fIsValue (p.nonce, ()) fun z5 => .lf fIsPolicy (z5.1, ()))) (.lf fIsPolicy (false, ()))) (.lf fIsPolicy (false, ()))) (.lf fIsPolicy (false, ())))) ?_
  refine br_i (fun h1 => br_i (fun h2 => br_i (fun h3 => br_i (fun h4 => lfY ?_) (fun h4 => lfY ?_)) (fun h3 => lfY ?_)) (fun h2 => lfY ?_)) (fun h1 => cl_i ?_ fun o5 => (br_i (fun h6 => cl_i ?_ fun o7 => (br_i (fun h8 => cl_i ?_ fun o9 => (br_i (fun h10 => br_i (fun h11 => lfY ?_) (fun h11 => cl_i ?_ fun o12 => (lfY ?_))) (fun h10 => lfY ?_))) (fun h8 => lfY ?_))) (fun h6 => lfY ?_)))
  all_goals
   try simp only [fIsPolicy, fIsValue, fNames, std, Nat.reduceAdd, isPolicy, fNames, fIsValue, szPolicy] at *
   try simp (disch := omega) only [wrapId', toNat1] at *
   try simp (disch := omega) only [if_pos, if_neg]
  all_goals first | trivial | omega | grind [wrapId', toNat1, drop_cons, drop_end, good_len, maxLen, isPolicy, fNames, fIsValue, szPolicy])
def E197 := E196.add 271 fIsPolicy
theorem E197ok : EOk Tryz.prog E197 := E196ok.add k271_196
def fAllows : Fct := ⟨[.v (.el .policy), .v (.el .int), .v (.el .str)], [.el .bool], fun (x_ : SPolicy × Int × ByteArray × Unit) => szPolicy x_.1 ≤ 1099511627776, fun (x_ : SPolicy × Int × ByteArray × Unit) => (!x_.1.set_ || (if x_.2.1 = 2 ∨ x_.2.1 = 5 then x_.1.scripts.any (fun c => decide (c = x_.2.2.1)) else if x_.2.1 = 3 then x_.1.styles.any (fun c => decide (c = x_.2.2.1)) else if x_.2.1 = 4 then x_.1.images.any (fun c => decide (c = x_.2.2.1)) else false), ())⟩
theorem k158_197 : fAllows.ok Tryz.prog 158 := Fct.o [1,2,3,6,7,11,22,29,1000007,1000011,1000022,1000029] E197ok Tryz.func158 (by
  rintro ⟨(p : SPolicy), (k : Int), (h : ByteArray), _⟩ hp
  refine ho (.br (!p.set_) (.lf fAllows (true, ())) (.br (k == 2) (.cl fHas9 (p.scripts, h, ()) fun z2 => .lf fAllows (z2.1, ())) (.br (k == 5) (.cl fHas9 (p.scripts, h, ()) fun z3 => .lf fAllows (z3.1, ())) (.br (k == 3) (.cl fHas9 (p.styles, h, ()) fun z4 => .lf fAllows (z4.1, ())) (.br (k == 4) (.cl fHas9 (p.images, h, ()) fun z5 => .lf fAllows (z5.1, ())) (.lf fAllows (false, ()))))))) ?_
  refine br_i (fun h1 => lfY ?_) (fun h1 => br_i (fun h2 => cl_i ?_ fun o3 => (lfY ?_)) (fun h2 => br_i (fun h4 => cl_i ?_ fun o5 => (lfY ?_)) (fun h4 => br_i (fun h6 => cl_i ?_ fun o7 => (lfY ?_)) (fun h6 => br_i (fun h8 => cl_i ?_ fun o9 => (lfY ?_)) (fun h8 => lfY ?_)))))
  all_goals
   have hl1 := szL_len szString p.scripts
   have hl2 := szL_len szString p.styles
   have hl3 := szL_len szString p.images
   try simp only [fAllows, fHas9, std, Nat.reduceAdd, fHas9, fContains_str, szPolicy] at *
   try simp (disch := omega) only [wrapId', toNat1] at *
   try simp (disch := omega) only [if_pos, if_neg]
  all_goals first | trivial | omega | grind [wrapId', toNat1, drop_cons, drop_end, good_len, maxLen, fHas9, fContains_str, szPolicy])
def E198 := E197.add 158 fAllows
theorem E198ok : EOk Tryz.prog E198 := E197ok.add k158_197
theorem k181_198 : fAllows.ok Tryz.prog 181 := Fct.o [1,2,3,6,9,10,11,18,24,1000009,1000018,1000024] E198ok Tryz.func181 (by
  rintro ⟨(p : SPolicy), (k : Int), (h : ByteArray), _⟩ hp
  refine ho (.br (!p.set_) (.lf fAllows (true, ())) (.br (k == 2) (.br (k == 2) (.cl fContains_str (p.scripts, h, ()) fun z2 => .lf fAllows (z2.1, ())) (.br (k == 3) (.cl fContains_str (p.styles, h, ()) fun z3 => .lf fAllows (z3.1, ())) (.br (k == 4) (.cl fContains_str (p.images, h, ()) fun z4 => .lf fAllows (z4.1, ())) (.lf fAllows (false, ()))))) (.br (k == 5) (.cl fContains_str (p.scripts, h, ()) fun z5 => .lf fAllows (z5.1, ())) (.br (k == 3) (.cl fContains_str (p.styles, h, ()) fun z6 => .lf fAllows (z6.1, ())) (.br (k == 4) (.cl fContains_str (p.images, h, ()) fun z7 => .lf fAllows (z7.1, ())) (.lf fAllows (false, ()))))))) ?_
  refine br_i (fun h1 => lfY ?_) (fun h1 => br_i (fun h2 => br_i (fun h3 => cl_i ?_ fun o4 => (lfY ?_)) (fun h3 => br_i (fun h5 => cl_i ?_ fun o6 => (lfY ?_)) (fun h5 => br_i (fun h7 => cl_i ?_ fun o8 => (lfY ?_)) (fun h7 => lfY ?_)))) (fun h2 => br_i (fun h9 => cl_i ?_ fun o10 => (lfY ?_)) (fun h9 => br_i (fun h11 => cl_i ?_ fun o12 => (lfY ?_)) (fun h11 => br_i (fun h13 => cl_i ?_ fun o14 => (lfY ?_)) (fun h13 => lfY ?_)))))
  all_goals
   have hl1 := szL_len szString p.scripts
   have hl2 := szL_len szString p.styles
   have hl3 := szL_len szString p.images
   try simp only [fAllows, fContains_str, std, Nat.reduceAdd, fHas9, fContains_str, szPolicy] at *
   try simp (disch := omega) only [wrapId', toNat1] at *
   try simp (disch := omega) only [if_pos, if_neg]
  all_goals first | trivial | omega | grind [wrapId', toNat1, drop_cons, drop_end, good_len, maxLen, fHas9, fContains_str, szPolicy])
def E199 := E198.add 181 fAllows
theorem E199ok : EOk Tryz.prog E199 := E198ok.add k181_198
def isRequest (r : SRequest) : Bool := inRange r.kind 1 5 && (isName r.to.host && isName r.to.path) && isName r.from_ && (decide (r.digest = ⟨#[]⟩) || isValue r.digest)
def fIsRequest : Fct := ⟨[.v (.el .request)], [.el .bool], fun (x_ : SRequest × Unit) => szRequest x_.1 ≤ 1099511627776, fun (x_ : SRequest × Unit) => (isRequest x_.1, ())⟩
theorem k157_199 : fIsRequest.ok Tryz.prog 157 := Fct.o [1,2] E199ok Tryz.func157 (by
  rintro ⟨(r : SRequest), _⟩ hp
  refine ho (.cl fInRange (r.kind, (1 : Int), (5 : Int), ()) fun z2 => .br (z2.1) (.cl fIsAddr (r.to, ()) fun z3 => .br (z3.1) (.cl fIsName (r.from_, ()) fun z4 => .br (z4.1) (.br (r.digest.toList == (⟨#[]⟩ : ByteArray).toList) (.lf fIsRequest (true, ())) (.cl fIsValue (r.digest, ()) fun z5 => .lf fIsRequest (z5.1, ()))) (.lf fIsRequest (false, ()))) (.lf fIsRequest (false, ()))) (.lf fIsRequest (false, ()))) ?_
  refine cl_i trivial fun _ => (br_i (fun h1 => cl_i ?_ fun o2 => (br_i (fun h3 => cl_i ?_ fun o4 => (br_i (fun h5 => br_i (fun h6 => lfY ?_) (fun h6 => cl_i ?_ fun o7 => (lfY ?_))) (fun h5 => lfY ?_))) (fun h3 => lfY ?_))) (fun h1 => lfY ?_))
  all_goals
   try simp only [fInRange, fIsAddr, fIsName, fIsRequest, fIsValue, std, Nat.reduceAdd, isRequest, fIsName, fIsAddr, fIsValue, fInRange, szRequest, szAddr] at *
   try simp (disch := omega) only [wrapId', toNat1] at *
   try simp (disch := omega) only [if_pos, if_neg]
  all_goals first | trivial | omega | grind [wrapId', toNat1, drop_cons, drop_end, good_len, maxLen, isRequest, fIsName, fIsAddr, fIsValue, fInRange, szRequest, szAddr])
def E200 := E199.add 157 fIsRequest
theorem E200ok : EOk Tryz.prog E200 := E199ok.add k157_199
theorem k180_200 : fIsRequest.ok Tryz.prog 180 := Fct.o [1,2] E200ok Tryz.func180 (by
  rintro ⟨(r : SRequest), _⟩ hp
  refine ho (.cl fInRange (r.kind, (1 : Int), (5 : Int), ()) fun z2 => .br (z2.1) (.cl fIsAddr (r.to, ()) fun z3 => .br (z3.1) (.cl fIsName (r.from_, ()) fun z4 => .br (z4.1) (.br (r.digest.toList == (⟨#[]⟩ : ByteArray).toList) (.lf fIsRequest (true, ())) (.cl fIsValue (r.digest, ()) fun z5 => .lf fIsRequest (z5.1, ()))) (.lf fIsRequest (false, ()))) (.lf fIsRequest (false, ()))) (.lf fIsRequest (false, ()))) ?_
  refine cl_i trivial fun _ => (br_i (fun h1 => cl_i ?_ fun o2 => (br_i (fun h3 => cl_i ?_ fun o4 => (br_i (fun h5 => br_i (fun h6 => lfY ?_) (fun h6 => cl_i ?_ fun o7 => (lfY ?_))) (fun h5 => lfY ?_))) (fun h3 => lfY ?_))) (fun h1 => lfY ?_))
  all_goals
   try simp only [fInRange, fIsAddr, fIsName, fIsRequest, fIsValue, std, Nat.reduceAdd, isRequest, fIsName, fIsAddr, fIsValue, fInRange, szRequest, szAddr] at *
   try simp (disch := omega) only [wrapId', toNat1] at *
   try simp (disch := omega) only [if_pos, if_neg]
  all_goals first | trivial | omega | grind [wrapId', toNat1, drop_cons, drop_end, good_len, maxLen, isRequest, fIsName, fIsAddr, fIsValue, fInRange, szRequest, szAddr])
def E201 := E200.add 180 fIsRequest
theorem E201ok : EOk Tryz.prog E201 := E200ok.add k180_200
def allows (p : SPolicy) (k : Int) (h : ByteArray) : Bool := (fAllows.fn (p, k, h, ())).1
def checkRequest (p : SPolicy) (r : SRequest) : Int := if isRequest r && (decide (r.kind = 1) || allows p r.kind r.to.host) then 1 else 2
def fCheckRequest : Fct := ⟨[.v (.el .policy), .v (.el .request)], [.el .int], fun (x_ : SPolicy × SRequest × Unit) => szPolicy x_.1 ≤ 1099511627776 ∧ szRequest x_.2.1 ≤ 1099511627776, fun (x_ : SPolicy × SRequest × Unit) => (checkRequest x_.1 x_.2.1, ())⟩
theorem k69_201 : fCheckRequest.ok Tryz.prog 69 := Fct.o [2,3,4,22,1000022] E201ok Tryz.func69 (by
  rintro ⟨(p : SPolicy), (r : SRequest), _⟩ hp
  refine ho (.cl fIsRequest (r, ()) fun z2 => .br (!z2.1) (.lf fCheckRequest ((2 : Int), ())) (.br (r.kind != 1) (.cl fAllows (p, r.kind, r.to.host, ()) fun z3 => .br (!z3.1) (.lf fCheckRequest ((2 : Int), ())) (.lf fCheckRequest ((1 : Int), ()))) (.lf fCheckRequest ((1 : Int), ())))) ?_
  refine cl_i ?_ fun o1 => (br_i (fun h2 => lfY ?_) (fun h2 => br_i (fun h3 => cl_i ?_ fun o4 => (br_i (fun h5 => lfY ?_) (fun h5 => lfY ?_))) (fun h3 => lfY ?_)))
  all_goals
   try simp only [fAllows, fCheckRequest, fIsRequest, std, Nat.reduceAdd, checkRequest, allows, fAllows, fIsRequest] at *
   try simp (disch := omega) only [wrapId', toNat1] at *
   try simp (disch := omega) only [if_pos, if_neg]
  all_goals first | trivial | omega | grind [wrapId', toNat1, drop_cons, drop_end, good_len, maxLen, checkRequest, allows, fAllows, fIsRequest])
def E202 := E201.add 69 fCheckRequest
theorem E202ok : EOk Tryz.prog E202 := E201ok.add k69_201
theorem k97_202 : fCheckRequest.ok Tryz.prog 97 := Fct.o [2,3,4,22,1000022] E202ok Tryz.func97 (by
  rintro ⟨(p : SPolicy), (r : SRequest), _⟩ hp
  refine ho (.cl fIsRequest (r, ()) fun z2 => .br (!z2.1) (.lf fCheckRequest ((2 : Int), ())) (.br (r.kind != 1) (.cl fAllows (p, r.kind, r.to.host, ()) fun z3 => .br (!z3.1) (.lf fCheckRequest ((2 : Int), ())) (.lf fCheckRequest ((1 : Int), ()))) (.lf fCheckRequest ((1 : Int), ())))) ?_
  refine cl_i ?_ fun o1 => (br_i (fun h2 => lfY ?_) (fun h2 => br_i (fun h3 => cl_i ?_ fun o4 => (br_i (fun h5 => lfY ?_) (fun h5 => lfY ?_))) (fun h3 => lfY ?_)))
  all_goals
   try simp only [fAllows, fCheckRequest, fIsRequest, std, Nat.reduceAdd, checkRequest, allows, fAllows, fIsRequest] at *
   try simp (disch := omega) only [wrapId', toNat1] at *
   try simp (disch := omega) only [if_pos, if_neg]
  all_goals first | trivial | omega | grind [wrapId', toNat1, drop_cons, drop_end, good_len, maxLen, checkRequest, allows, fAllows, fIsRequest])
def E203 := E202.add 97 fCheckRequest
theorem E203ok : EOk Tryz.prog E203 := E202ok.add k97_202
def notFound : SResponse := ⟨404, 1, ⟨#[]⟩, 0, false, ⟨#[]⟩⟩
def fNotFound : Fct := ⟨[], [rE .response], fun _ => True, fun _ => (notFound, ())⟩
theorem k73_203 : fNotFound.ok Tryz.prog 73 := Fct.o [0] E203ok Tryz.func73 (by
  rintro ⟨_⟩ hp
  refine ho (.lf fNotFound (⟨(404 : Int), (1 : Int), (⟨#[]⟩ : ByteArray), (0 : Int), false, (⟨#[]⟩ : ByteArray)⟩, ())) ?_
  refine lfY ?_
  all_goals try simp only [fNotFound, std, Nat.reduceAdd] at *
  all_goals first | trivial | omega | (simp_all; done) | (simp_all; omega) | grind)
def E204 := E203.add 73 fNotFound
theorem E204ok : EOk Tryz.prog E204 := E203ok.add k73_203
theorem k105_204 : fNotFound.ok Tryz.prog 105 := Fct.o [0] E204ok Tryz.func105 (by
  rintro ⟨_⟩ hp
  refine ho (.lf fNotFound (⟨(404 : Int), (1 : Int), (⟨#[]⟩ : ByteArray), (0 : Int), false, (⟨#[]⟩ : ByteArray)⟩, ())) ?_
  refine lfY ?_
  all_goals try simp only [fNotFound, std, Nat.reduceAdd] at *
  all_goals first | trivial | omega | (simp_all; done) | (simp_all; omega) | grind)
def E205 := E204.add 105 fNotFound
theorem E205ok : EOk Tryz.prog E205 := E204ok.add k105_204
def fCopyServers : Fct := ⟨[.v (.sl .server)], [.sl .server], fun (x_ : (List SServer) × Unit) => szL szServer x_.1 ≤ 68719476736, fun (x_ : (List SServer) × Unit) => (x_.1, ())⟩
abbrev W_spec_l12Copy_fCopyServers_3 (l : (List SServer)) : LInv := ⟨[⟨.s, 3, true, .sl .server⟩, ⟨.s, 4, true, .el .int⟩], fun _ (x_ : (List SServer) × Int × Unit) => 0 ≤ x_.2.1 ∧ x_.2.1 ≤ l.length ∧ x_.1 = l.take x_.2.1.toNat, fun (x_ : (List SServer) × Int × Unit) => l.length - x_.2.1.toNat⟩
theorem k151_205 : fCopyServers.ok Tryz.prog 151 := Fct.of (S := fCopyServers) (L := fun ⟨l, _⟩ => fun | 3 => some (W_spec_l12Copy_fCopyServers_3 l) | _ => none) (kp := [0,2,3,4,9,1000009]) E205ok Tryz.func151 (by kernel_rfl) (by kernel_rfl) (by
  rintro ⟨(l : List SServer), _⟩ hp
  refine ho (lpx (W_spec_l12Copy_fCopyServers_3 l) ([], ((0 : Int), ())) fun (y1 : List SServer × Int × PUnit) bk1 => .br (decide (y1.2.1 < (↑l.length : Int))) (.ob (inB y1.2.1 l.length) <| .ob (inB y1.2.1 l.length) <| .ob (True) <| .ob (Room (l.getD y1.2.1.toNat default).files.length 80) <| .ob (Room (y1.1.length + [l.getD y1.2.1.toNat default].length) 40) <| .ob (l = l) <| .ob (bk1 (y1.1 ++ [l.getD y1.2.1.toNat default], (w1 y1.2.1, ()))) <| .ok) (.lf fCopyServers (y1.1, ()))) ?_
  refine lpx_i ?_ fun (y1 : List SServer × Int × PUnit) i1 => br_i (fun h2 => ob_i ?_ fun o3 => ob_i ?_ fun o4 => ob_i trivial fun _ => ob_i ?_ fun o5 => ob_i ?_ fun o6 => ob_i rfl fun _ => ob_i ?_ fun o7 => trivial) (fun h2 => lfY ?_)
  all_goals
   have hl := szL_len szServer l
   have hg : ∀ i, i < l.length → (l.getD i default).files.length ≤ 68719476736 := fun i h => by have := szServer_get h; have hp2 : szL szServer l ≤ 68719476736 := hp; omega
   try simp only [W_spec_l12Copy_fCopyServers_3, fCopyServers, std, Nat.reduceAdd, take_succ, take_end] at *
   try simp (disch := omega) only [wrapId', toNat1] at *
   try simp (disch := omega) only [if_pos, if_neg]
  all_goals first | trivial | omega | grind [wrapId', toNat1, drop_cons, drop_end, good_len, maxLen, take_succ, take_end])
def E206 := E205.add 151 fCopyServers
theorem E206ok : EOk Tryz.prog E206 := E205ok.add k151_205
abbrev W_impl_copyServers_fCopyServers_3 (l : (List SServer)) : LInv := ⟨[⟨.s, 3, true, .sl .server⟩, ⟨.s, 9, true, .el .int⟩], fun _ (x_ : (List SServer) × Int × Unit) => 0 ≤ x_.2.1 ∧ x_.2.1 ≤ l.length ∧ x_.1 = l.take x_.2.1.toNat, fun (x_ : (List SServer) × Int × Unit) => l.length - x_.2.1.toNat⟩
theorem k174_206 : fCopyServers.ok Tryz.prog 174 := Fct.of (S := fCopyServers) (L := fun ⟨l, _⟩ => fun | 3 => some (W_impl_copyServers_fCopyServers_3 l) | _ => none) (kp := [0,2,3,5,7,8,9,10,1000010]) E206ok Tryz.func174 (by kernel_rfl) (by kernel_rfl) (by
  rintro ⟨(l : List SServer), _⟩ hp
  refine ho (lpx (W_impl_copyServers_fCopyServers_3 l) ([], ((0 : Int), ())) fun (y1 : List SServer × Int × PUnit) bk1 => .br (decide (y1.2.1 < (↑l.length : Int))) (.ob (inB y1.2.1 l.length) <| .ob (True) <| .ob (Room (l.getD y1.2.1.toNat default).files.length 80) <| .ob (Room (y1.1.length + [l.getD y1.2.1.toNat default].length) 40) <| .ob (l = l) <| .ob (l = l) <| .ob (Value.int IntKind.i64 (↑l.length : Int) = Value.int IntKind.i64 (↑l.length : Int)) <| .ob (bk1 (y1.1 ++ [l.getD y1.2.1.toNat default], (w1 y1.2.1, ()))) <| .ok) (.lf fCopyServers (y1.1, ()))) ?_
  refine lpx_i ?_ fun (y1 : List SServer × Int × PUnit) i1 => br_i (fun h2 => ob_i ?_ fun o3 => ob_i trivial fun _ => ob_i ?_ fun o4 => ob_i ?_ fun o5 => ob_i rfl fun _ => ob_i rfl fun _ => ob_i rfl fun _ => ob_i ?_ fun o6 => trivial) (fun h2 => lfY ?_)
  all_goals
   have hl := szL_len szServer l
   have hg : ∀ i, i < l.length → (l.getD i default).files.length ≤ 68719476736 := fun i h => by have := szServer_get h; have hp2 : szL szServer l ≤ 68719476736 := hp; omega
   try simp only [W_impl_copyServers_fCopyServers_3, fCopyServers, std, Nat.reduceAdd, take_succ, take_end] at *
   try simp (disch := omega) only [wrapId', toNat1] at *
   try simp (disch := omega) only [if_pos, if_neg]
  all_goals first | trivial | omega | grind [wrapId', toNat1, drop_cons, drop_end, good_len, maxLen, take_succ, take_end])
def E207 := E206.add 174 fCopyServers
theorem E207ok : EOk Tryz.prog E207 := E206ok.add k174_206
def fCopyCache : Fct := ⟨[.v (.el .cache)], [.el .cache], fun (x_ : SCache × Unit) => szCache x_.1 ≤ 68719476736, fun (x_ : SCache × Unit) => (x_.1, ())⟩
theorem k152_207 : fCopyCache.ok Tryz.prog 152 := Fct.o [1,2] E207ok Tryz.func152 (by
  rintro ⟨(c : SCache), _⟩ hp
  refine ho (.ob (True) <| .ob (Room (0 + c.entries.length) 120) <| .lf fCopyCache (⟨[] ++ c.entries⟩, ())) ?_
  refine ob_i trivial fun _ => ob_i ?_ fun o1 => lfY ?_
  all_goals
   have hl := szL_len szEntry c.entries
   try simp only [fCopyCache, std, Nat.reduceAdd, szCache] at *
   try simp (disch := omega) only [wrapId', toNat1] at *
   try simp (disch := omega) only [if_pos, if_neg]
  all_goals first | trivial | omega | grind [wrapId', toNat1, drop_cons, drop_end, good_len, maxLen, szCache])
def E208 := E207.add 152 fCopyCache
theorem E208ok : EOk Tryz.prog E208 := E207ok.add k152_207
theorem k175_208 : fCopyCache.ok Tryz.prog 175 := Fct.o [1,2] E208ok Tryz.func175 (by
  rintro ⟨(c : SCache), _⟩ hp
  refine ho (.ob (True) <| .ob (Room (0 + c.entries.length) 120) <| .lf fCopyCache (⟨[] ++ c.entries⟩, ())) ?_
  refine ob_i trivial fun _ => ob_i ?_ fun o1 => lfY ?_
  all_goals
   have hl := szL_len szEntry c.entries
   try simp only [fCopyCache, std, Nat.reduceAdd, szCache] at *
   try simp (disch := omega) only [wrapId', toNat1] at *
   try simp (disch := omega) only [if_pos, if_neg]
  all_goals first | trivial | omega | grind [wrapId', toNat1, drop_cons, drop_end, good_len, maxLen, szCache])
def E209 := E208.add 175 fCopyCache
theorem E209ok : EOk Tryz.prog E209 := E208ok.add k175_208
def fCopyNet : Fct := ⟨[.v (.el .net)], [.el .net], fun (x_ : SNet × Unit) => szNet x_.1 ≤ 68719476736, fun (x_ : SNet × Unit) => (x_.1, ())⟩
theorem k65_209 : fCopyNet.ok Tryz.prog 65 := Fct.o [1,2] E209ok Tryz.func65 (by
  rintro ⟨(n : SNet), _⟩ hp
  refine ho (.cl fCopyServers (n.servers, ()) fun z2 => .cl fCopyCache (n.cache, ()) fun z3 => .ob (True) <| .ob (Room n.log.length 56) <| .lf fCopyNet (⟨z2.1, z3.1, n.log, n.now⟩, ())) ?_
  refine cl_i ?_ fun o1 => (cl_i ?_ fun o2 => (ob_i trivial fun _ => ob_i ?_ fun o3 => lfY ?_))
  all_goals
   have hl := szL_len szSent n.log
   try simp only [fCopyCache, fCopyNet, fCopyServers, std, Nat.reduceAdd, szNet, fCopyServers, fCopyCache] at *
   try simp (disch := omega) only [wrapId', toNat1] at *
   try simp (disch := omega) only [if_pos, if_neg]
  all_goals first | trivial | omega | grind [wrapId', toNat1, drop_cons, drop_end, good_len, maxLen, szNet, fCopyServers, fCopyCache])
def E210 := E209.add 65 fCopyNet
theorem E210ok : EOk Tryz.prog E210 := E209ok.add k65_209
theorem k91_210 : fCopyNet.ok Tryz.prog 91 := Fct.o [1,2] E210ok Tryz.func91 (by
  rintro ⟨(n : SNet), _⟩ hp
  refine ho (.cl fCopyServers (n.servers, ()) fun z2 => .cl fCopyCache (n.cache, ()) fun z3 => .ob (True) <| .ob (Room n.log.length 56) <| .lf fCopyNet (⟨z2.1, z3.1, n.log, n.now⟩, ())) ?_
  refine cl_i ?_ fun o1 => (cl_i ?_ fun o2 => (ob_i trivial fun _ => ob_i ?_ fun o3 => lfY ?_))
  all_goals
   have hl := szL_len szSent n.log
   try simp only [fCopyCache, fCopyNet, fCopyServers, std, Nat.reduceAdd, szNet, fCopyServers, fCopyCache] at *
   try simp (disch := omega) only [wrapId', toNat1] at *
   try simp (disch := omega) only [if_pos, if_neg]
  all_goals first | trivial | omega | grind [wrapId', toNat1, drop_cons, drop_end, good_len, maxLen, szNet, fCopyServers, fCopyCache])
def E211 := E210.add 91 fCopyNet
theorem E211ok : EOk Tryz.prog E211 := E210ok.add k91_210
def fServerAt : Fct := ⟨[.v (.sl .server), .v (.el .str)], [.el .int], fun (x_ : (List SServer) × ByteArray × Unit) => x_.1.length ≤ 1000000000000, fun (x_ : (List SServer) × ByteArray × Unit) => (fidx (fun s => decide (s.host = x_.2.1)) x_.1 0, ())⟩
abbrev W_spec_l12Server_fServerAt_2 (l : (List SServer)) (h : ByteArray) : LInv := ⟨[⟨.s, 5, true, .el .int⟩], fun _ (x_ : Int × Unit) => 0 ≤ x_.1 ∧ x_.1 ≤ l.length ∧ fidx (fun s => decide (s.host = h)) (l.drop x_.1.toNat) x_.1 = fidx (fun s => decide (s.host = h)) l 0, fun (x_ : Int × Unit) => l.length - x_.1.toNat⟩
theorem k161_211 : fServerAt.ok Tryz.prog 161 := Fct.of (S := fServerAt) (L := fun ⟨l, h, _⟩ => fun | 2 => some (W_spec_l12Server_fServerAt_2 l h) | _ => none) (kp := [0,1,4,5,9,18,1000009,1000018]) E211ok Tryz.func161 (by kernel_rfl) (by kernel_rfl) (by
  rintro ⟨(l : List SServer), (h : ByteArray), _⟩ hp
  refine ho (lpx (W_spec_l12Server_fServerAt_2 l h) ((0 : Int), ()) fun (y1 : Int × PUnit) bk1 => .br (decide (y1.1 < (↑l.length : Int))) (.ob (inB y1.1 l.length) <| .br ((l.getD y1.1.toNat default).host.toList == h.toList) (.lf fServerAt (y1.1, ())) (.ob (l = l) <| .ob (Value.string h = Value.string h) <| .ob (bk1 (w1 y1.1, ())) <| .ok)) (.lf fServerAt ((-1 : Int), ()))) ?_
  refine lpx_i ?_ fun (y1 : Int × PUnit) i1 => br_i (fun h2 => ob_i ?_ fun o3 => br_i (fun h4 => lfY ?_) (fun h4 => ob_i rfl fun _ => ob_i rfl fun _ => ob_i ?_ fun o5 => trivial)) (fun h2 => lfY ?_)
  all_goals
   try simp only [W_spec_l12Server_fServerAt_2, fServerAt, std, Nat.reduceAdd, fidx] at *
   try simp (disch := omega) only [wrapId', toNat1] at *
   try simp (disch := omega) only [if_pos, if_neg]
  all_goals first | trivial | omega | grind [wrapId', toNat1, drop_cons, drop_end, good_len, maxLen, fidx])
def E212 := E211.add 161 fServerAt
theorem E212ok : EOk Tryz.prog E212 := E211ok.add k161_211
def fServerAt1 : Fct := ⟨[.v (.el .server), .p (.el .str)], [.el .bool], fun (x_ : SServer × ByteArray × Unit) => True, fun (x_ : SServer × ByteArray × Unit) => (decide (x_.1.host = x_.2.1), ())⟩
theorem k240_212 : fServerAt1.ok Tryz.prog 240 := Fct.o [1,2,3] E212ok Tryz.func240 (by
  rintro ⟨(s : SServer), (h : ByteArray), _⟩ hp
  refine ho (.lf fServerAt1 (s.host.toList == ByteArray.toList h, ())) ?_
  refine lfY ?_
  all_goals
   try simp only [fServerAt1, std, Nat.reduceAdd] at *
   try simp (disch := omega) only [wrapId', toNat1] at *
   try simp (disch := omega) only [if_pos, if_neg]
  all_goals first | trivial | omega | grind [wrapId', toNat1, drop_cons, drop_end, good_len, maxLen])
def E213 := E212.add 240 fServerAt1
theorem E213ok : EOk Tryz.prog E213 := E212ok.add k240_212
def fIndexFunc_server_impl_serverAt_1 : Fct := ⟨[aL .server, .c 240 [.el .str]], [rI], fun x => x.1.length ≤ 1000000000000000000 ∧ ∀ c, fServerAt1.pre (c, x.2.1), fun x => (fidx (fun c => (fServerAt1.fn (c, x.2.1)).1) x.1 0, ())⟩
abbrev W_slices_IndexFunc_impl_Server_impl_Server_fIndexFunc_server_impl_serverAt_1_2 (l : (List SServer)) (u : (ByteArray × Unit)) : LInv := ⟨[⟨.s, 8, true, .el .int⟩], fun _ (x_ : Int × Unit) => 0 ≤ x_.1 ∧ x_.1 ≤ l.length ∧ fidx (fun c => (fServerAt1.fn (c, u)).1) l 0 = fidx (fun c => (fServerAt1.fn (c, u)).1) (l.drop x_.1.toNat) x_.1, fun (x_ : Int × Unit) => l.length - x_.1.toNat⟩
theorem k239_213 : fIndexFunc_server_impl_serverAt_1.ok Tryz.prog 239 := Fct.of (S := fIndexFunc_server_impl_serverAt_1) (L := fun ⟨l, u, _⟩ => fun | 2 => some (W_slices_IndexFunc_impl_Server_impl_Server_fIndexFunc_server_impl_serverAt_1_2 l u) | _ => none) (kp := [0,1,4,5,7,8,9,16,1000009,1000016]) E213ok Tryz.func239 (by kernel_rfl) (by kernel_rfl) (by
  rintro ⟨(l : List SServer), (u : ByteArray × PUnit), _⟩ hp
  refine ho (lpx (W_slices_IndexFunc_impl_Server_impl_Server_fIndexFunc_server_impl_serverAt_1_2 l u) ((0 : Int), ()) fun (y1 : Int × PUnit) bk1 => .br (decide (y1.1 < (↑l.length : Int))) (.ob (inB y1.1 l.length) <| .cl fServerAt1 (l.getD y1.1.toNat default, u.1, ()) fun z2 => .br (z2.1) (.lf fIndexFunc_server_impl_serverAt_1 (y1.1, ())) (.ob (l = l) <| .ob (enc Ty.str u.1 = enc Ty.str u.1) <| .ob (Value.int IntKind.i64 (↑l.length : Int) = Value.int IntKind.i64 (↑l.length : Int)) <| .ob (bk1 (w1 y1.1, ())) <| .ok)) (.lf fIndexFunc_server_impl_serverAt_1 ((-1 : Int), ()))) ?_
  refine lpx_i ?_ fun (y1 : Int × PUnit) i1 => br_i (fun h2 => ob_i ?_ fun o3 => cl_i trivial fun _ => (br_i (fun h4 => lfY ?_) (fun h4 => ob_i rfl fun _ => ob_i rfl fun _ => ob_i rfl fun _ => ob_i ?_ fun o5 => trivial))) (fun h2 => lfY ?_)
  all_goals
   try simp only [W_slices_IndexFunc_impl_Server_impl_Server_fIndexFunc_server_impl_serverAt_1_2, fIndexFunc_server_impl_serverAt_1, fServerAt1, std, Nat.reduceAdd] at *
   try have hp2 := hp.2
   try have hp1 := hp.1
  all_goals first | trivial | omega | grind [wrapId', toNat1, drop_cons, drop_end, good_len, maxLen, fidx])
def E214 := E213.add 239 fIndexFunc_server_impl_serverAt_1
theorem E214ok : EOk Tryz.prog E214 := E213ok.add k239_213
theorem k189_214 : fServerAt.ok Tryz.prog 189 := Fct.o [0,3,4] E214ok Tryz.func189 (by
  rintro ⟨(l : List SServer), (h : ByteArray), _⟩ hp
  refine ho (.cl fIndexFunc_server_impl_serverAt_1 (l, (h, ()), ()) fun z2 => .lf fServerAt (z2.1, ())) ?_
  refine cl_i ?_ fun o1 => (lfY ?_)
  all_goals
   try simp only [fIndexFunc_server_impl_serverAt_1, fServerAt, std, Nat.reduceAdd, fServerAt1] at *
   try simp (disch := omega) only [wrapId', toNat1] at *
   try simp (disch := omega) only [if_pos, if_neg]
  all_goals first | trivial | omega | grind [wrapId', toNat1, drop_cons, drop_end, good_len, maxLen, fServerAt1])
def E215 := E214.add 189 fServerAt
theorem E215ok : EOk Tryz.prog E215 := E214ok.add k189_214
def fFileAt : Fct := ⟨[.v (.el .server), .v (.el .str)], [.el .int], fun (x_ : SServer × ByteArray × Unit) => x_.1.files.length ≤ 1000000000000, fun (x_ : SServer × ByteArray × Unit) => (fidx (fun f => decide (f.path = x_.2.1)) x_.1.files 0, ())⟩
abbrev W_spec_l12File_fFileAt_2 (s : SServer) (p : ByteArray) : LInv := ⟨[⟨.s, 5, true, .el .int⟩, ⟨.b, 2, false, .el .server⟩], fun (z_ : Int × SServer × Unit) (x_ : Int × SServer × Unit) => (0 ≤ x_.1 ∧ x_.1 ≤ s.files.length ∧ fidx (fun f => decide (f.path = p)) (s.files.drop x_.1.toNat) x_.1 = fidx (fun f => decide (f.path = p)) s.files 0) ∧ x_.2.1 = z_.2.1, fun (x_ : Int × SServer × Unit) => s.files.length - x_.1.toNat⟩
theorem k162_215 : fFileAt.ok Tryz.prog 162 := Fct.of (S := fFileAt) (L := fun ⟨s, p, _⟩ => fun | 2 => some (W_spec_l12File_fFileAt_2 s p) | _ => none) (kp := [1,2,4,5,10,20,1000010,1000020]) E215ok Tryz.func162 (by kernel_rfl) (by kernel_rfl) (by
  rintro ⟨(s : SServer), (p : ByteArray), _⟩ hp
  refine ho (lpx (W_spec_l12File_fFileAt_2 s p) ((0 : Int), (s, ())) fun (y1 : Int × SServer × PUnit) bk1 => .br (decide (y1.1 < (↑y1.2.1.files.length : Int))) (.ob (inB y1.1 y1.2.1.files.length) <| .br ((y1.2.1.files.getD y1.1.toNat default).path.toList == p.toList) (.lf fFileAt (y1.1, ())) (.ob (Value.string p = Value.string p) <| .ob (bk1 (w1 y1.1, (y1.2.1, ()))) <| .ok)) (.lf fFileAt ((-1 : Int), ()))) ?_
  refine lpx_i ?_ fun (y1 : Int × SServer × PUnit) i1 => br_i (fun h2 => ob_i ?_ fun o3 => br_i (fun h4 => lfY ?_) (fun h4 => ob_i rfl fun _ => ob_i ?_ fun o5 => trivial)) (fun h2 => lfY ?_)
  all_goals
   try simp only [W_spec_l12File_fFileAt_2, fFileAt, std, Nat.reduceAdd, fidx] at *
   try simp (disch := omega) only [wrapId', toNat1] at *
   try simp (disch := omega) only [if_pos, if_neg]
  all_goals first | trivial | omega | grind [wrapId', toNat1, drop_cons, drop_end, good_len, maxLen, fidx])
def E216 := E215.add 162 fFileAt
theorem E216ok : EOk Tryz.prog E216 := E215ok.add k162_215
def fFileAt1 : Fct := ⟨[.v (.el .file), .p (.el .str)], [.el .bool], fun (x_ : SFile × ByteArray × Unit) => True, fun (x_ : SFile × ByteArray × Unit) => (decide (x_.1.path = x_.2.1), ())⟩
theorem k242_216 : fFileAt1.ok Tryz.prog 242 := Fct.o [1,2,3] E216ok Tryz.func242 (by
  rintro ⟨(f : SFile), (p : ByteArray), _⟩ hp
  refine ho (.lf fFileAt1 (f.path.toList == ByteArray.toList p, ())) ?_
  refine lfY ?_
  all_goals
   try simp only [fFileAt1, std, Nat.reduceAdd] at *
   try simp (disch := omega) only [wrapId', toNat1] at *
   try simp (disch := omega) only [if_pos, if_neg]
  all_goals first | trivial | omega | grind [wrapId', toNat1, drop_cons, drop_end, good_len, maxLen])
def E217 := E216.add 242 fFileAt1
theorem E217ok : EOk Tryz.prog E217 := E216ok.add k242_216
def fIndexFunc_file_impl_fileAt_1 : Fct := ⟨[aL .file, .c 242 [.el .str]], [rI], fun x => x.1.length ≤ 1000000000000000000 ∧ ∀ c, fFileAt1.pre (c, x.2.1), fun x => (fidx (fun c => (fFileAt1.fn (c, x.2.1)).1) x.1 0, ())⟩
abbrev W_slices_IndexFunc_impl_File_impl_File_fIndexFunc_file_impl_fileAt_1_2 (l : (List SFile)) (u : (ByteArray × Unit)) : LInv := ⟨[⟨.s, 8, true, .el .int⟩], fun _ (x_ : Int × Unit) => 0 ≤ x_.1 ∧ x_.1 ≤ l.length ∧ fidx (fun c => (fFileAt1.fn (c, u)).1) l 0 = fidx (fun c => (fFileAt1.fn (c, u)).1) (l.drop x_.1.toNat) x_.1, fun (x_ : Int × Unit) => l.length - x_.1.toNat⟩
theorem k241_217 : fIndexFunc_file_impl_fileAt_1.ok Tryz.prog 241 := Fct.of (S := fIndexFunc_file_impl_fileAt_1) (L := fun ⟨l, u, _⟩ => fun | 2 => some (W_slices_IndexFunc_impl_File_impl_File_fIndexFunc_file_impl_fileAt_1_2 l u) | _ => none) (kp := [0,1,4,5,7,8,9,16,1000009,1000016]) E217ok Tryz.func241 (by kernel_rfl) (by kernel_rfl) (by
  rintro ⟨(l : List SFile), (u : ByteArray × PUnit), _⟩ hp
  refine ho (lpx (W_slices_IndexFunc_impl_File_impl_File_fIndexFunc_file_impl_fileAt_1_2 l u) ((0 : Int), ()) fun (y1 : Int × PUnit) bk1 => .br (decide (y1.1 < (↑l.length : Int))) (.ob (inB y1.1 l.length) <| .cl fFileAt1 (l.getD y1.1.toNat default, u.1, ()) fun z2 => .br (z2.1) (.lf fIndexFunc_file_impl_fileAt_1 (y1.1, ())) (.ob (l = l) <| .ob (enc Ty.str u.1 = enc Ty.str u.1) <| .ob (Value.int IntKind.i64 (↑l.length : Int) = Value.int IntKind.i64 (↑l.length : Int)) <| .ob (bk1 (w1 y1.1, ())) <| .ok)) (.lf fIndexFunc_file_impl_fileAt_1 ((-1 : Int), ()))) ?_
  refine lpx_i ?_ fun (y1 : Int × PUnit) i1 => br_i (fun h2 => ob_i ?_ fun o3 => cl_i trivial fun _ => (br_i (fun h4 => lfY ?_) (fun h4 => ob_i rfl fun _ => ob_i rfl fun _ => ob_i rfl fun _ => ob_i ?_ fun o5 => trivial))) (fun h2 => lfY ?_)
  all_goals
   try simp only [W_slices_IndexFunc_impl_File_impl_File_fIndexFunc_file_impl_fileAt_1_2, fFileAt1, fIndexFunc_file_impl_fileAt_1, std, Nat.reduceAdd] at *
   try have hp2 := hp.2
   try have hp1 := hp.1
  all_goals first | trivial | omega | grind [wrapId', toNat1, drop_cons, drop_end, good_len, maxLen, fidx])
def E218 := E217.add 241 fIndexFunc_file_impl_fileAt_1
theorem E218ok : EOk Tryz.prog E218 := E217ok.add k241_217
theorem k190_218 : fFileAt.ok Tryz.prog 190 := Fct.o [2,3,4] E218ok Tryz.func190 (by
  rintro ⟨(s : SServer), (p : ByteArray), _⟩ hp
  refine ho (.cl fIndexFunc_file_impl_fileAt_1 (s.files, (p, ()), ()) fun z2 => .lf fFileAt (z2.1, ())) ?_
  refine cl_i ?_ fun o1 => (lfY ?_)
  all_goals
   try simp only [fFileAt, fIndexFunc_file_impl_fileAt_1, std, Nat.reduceAdd, fFileAt1] at *
   try simp (disch := omega) only [wrapId', toNat1] at *
   try simp (disch := omega) only [if_pos, if_neg]
  all_goals first | trivial | omega | grind [wrapId', toNat1, drop_cons, drop_end, good_len, maxLen, fFileAt1])
def E219 := E218.add 190 fFileAt
theorem E219ok : EOk Tryz.prog E219 := E218ok.add k190_218
def answerTo (l : List SServer) (a : SAddr) : SResponse := if fidx (fun s => decide (s.host = a.host)) l 0 < 0 then notFound else if fidx (fun f => decide (f.path = a.path)) (l.getD (fidx (fun s => decide (s.host = a.host)) l 0).toNat default).files 0 < 0 then notFound else ((l.getD (fidx (fun s => decide (s.host = a.host)) l 0).toNat default).files.getD (fidx (fun f => decide (f.path = a.path)) (l.getD (fidx (fun s => decide (s.host = a.host)) l 0).toNat default).files 0).toNat default).response
def fAnswerTo : Fct := ⟨[.v (.sl .server), .v (.el .addr)], [.el .response], fun (x_ : (List SServer) × SAddr × Unit) => szL szServer x_.1 ≤ 68719476736, fun (x_ : (List SServer) × SAddr × Unit) => (answerTo x_.1 x_.2.1, ())⟩
theorem k75_219 : fAnswerTo.ok Tryz.prog 75 := Fct.o [0,3,4,5,6,12,22,1000012,1000022] E219ok Tryz.func75 (by
  rintro ⟨(l : List SServer), (a : SAddr), _⟩ hp
  refine ho (.cl fServerAt (l, a.host, ()) fun z2 => .br (decide (z2.1 < 0)) (.cl fNotFound () fun z3 => .lf fAnswerTo (z3.1, ())) (.ob (0 ≤ z2.1 ∧ z2.1 < (↑(List.length l) : Int)) <| .cl fFileAt (List.getD l z2.1.toNat default, a.path, ()) fun z4 => .br (decide (z4.1 < 0)) (.cl fNotFound () fun z5 => .lf fAnswerTo (z5.1, ())) (.ob (0 ≤ z2.1 ∧ z2.1 < (↑(List.length l) : Int)) <| .ob (0 ≤ z4.1 ∧ z4.1 < (↑(List.getD l z2.1.toNat default).files.length : Int)) <| .lf fAnswerTo (((List.getD l z2.1.toNat default).files.getD z4.1.toNat default).response, ())))) ?_
  refine cl_i ?_ fun o1 => (br_i (fun h2 => cl_i trivial fun _ => (lfY ?_)) (fun h2 => ob_i ?_ fun o3 => cl_i ?_ fun o4 => (br_i (fun h5 => cl_i trivial fun _ => (lfY ?_)) (fun h5 => ob_i ?_ fun o6 => ob_i ?_ fun o7 => lfY ?_))))
  all_goals
   have hl := szL_len szServer l
   have hg : ∀ i, i < l.length → (l.getD i default).files.length ≤ 68719476736 := fun i h => by have := szServer_get h; have hp2 : szL szServer l ≤ 68719476736 := hp; omega
   have hf := fidx_lt (fun s : SServer => decide (s.host = a.host)) l 0 (by omega)
   have hf2 := fun fs => fidx_lt (fun f : SFile => decide (f.path = a.path)) fs 0 (by omega)
   try simp only [fAnswerTo, fFileAt, fNotFound, fServerAt, std, Nat.reduceAdd, answerTo, fServerAt, fFileAt, fNotFound] at *
   try simp (disch := omega) only [wrapId', toNat1] at *
   try simp (disch := omega) only [if_pos, if_neg]
  all_goals first | trivial | omega | grind [wrapId', toNat1, drop_cons, drop_end, good_len, maxLen, answerTo, fServerAt, fFileAt, fNotFound])
def E220 := E219.add 75 fAnswerTo
theorem E220ok : EOk Tryz.prog E220 := E219ok.add k75_219
theorem k107_220 : fAnswerTo.ok Tryz.prog 107 := Fct.o [0,3,4,5,6,12,22,1000012,1000022] E220ok Tryz.func107 (by
  rintro ⟨(l : List SServer), (a : SAddr), _⟩ hp
  refine ho (.cl fServerAt (l, a.host, ()) fun z2 => .br (decide (z2.1 < 0)) (.cl fNotFound () fun z3 => .lf fAnswerTo (z3.1, ())) (.ob (0 ≤ z2.1 ∧ z2.1 < (↑(List.length l) : Int)) <| .cl fFileAt (List.getD l z2.1.toNat default, a.path, ()) fun z4 => .br (decide (z4.1 < 0)) (.cl fNotFound () fun z5 => .lf fAnswerTo (z5.1, ())) (.ob (0 ≤ z2.1 ∧ z2.1 < (↑(List.length l) : Int)) <| .ob (0 ≤ z4.1 ∧ z4.1 < (↑(List.getD l z2.1.toNat default).files.length : Int)) <| .lf fAnswerTo (((List.getD l z2.1.toNat default).files.getD z4.1.toNat default).response, ())))) ?_
  refine cl_i ?_ fun o1 => (br_i (fun h2 => cl_i trivial fun _ => (lfY ?_)) (fun h2 => ob_i ?_ fun o3 => cl_i ?_ fun o4 => (br_i (fun h5 => cl_i trivial fun _ => (lfY ?_)) (fun h5 => ob_i ?_ fun o6 => ob_i ?_ fun o7 => lfY ?_))))
  all_goals
   have hl := szL_len szServer l
   have hg : ∀ i, i < l.length → (l.getD i default).files.length ≤ 68719476736 := fun i h => by have := szServer_get h; have hp2 : szL szServer l ≤ 68719476736 := hp; omega
   have hf := fidx_lt (fun s : SServer => decide (s.host = a.host)) l 0 (by omega)
   have hf2 := fun fs => fidx_lt (fun f : SFile => decide (f.path = a.path)) fs 0 (by omega)
   try simp only [fAnswerTo, fFileAt, fNotFound, fServerAt, std, Nat.reduceAdd, answerTo, fServerAt, fFileAt, fNotFound] at *
   try simp (disch := omega) only [wrapId', toNat1] at *
   try simp (disch := omega) only [if_pos, if_neg]
  all_goals first | trivial | omega | grind [wrapId', toNat1, drop_cons, drop_end, good_len, maxLen, answerTo, fServerAt, fFileAt, fNotFound])
def E221 := E220.add 107 fAnswerTo
theorem E221ok : EOk Tryz.prog E221 := E220ok.add k107_220
def fFindEntry : Fct := ⟨[.v (.el .cache), .v (.el .str), .v (.el .addr)], [.el .int], fun (x_ : SCache × ByteArray × SAddr × Unit) => x_.1.entries.length ≤ 1000000000000, fun (x_ : SCache × ByteArray × SAddr × Unit) => (fidx (fun e => decide (e.top = x_.2.1) && decide (e.to = x_.2.2.1)) x_.1.entries 0, ())⟩
abbrev W_spec_l13Find_fFindEntry_2 (c : SCache) (t : ByteArray) (a : SAddr) : LInv := ⟨[⟨.s, 7, true, .el .int⟩, ⟨.b, 3, false, .el .cache⟩, ⟨.b, 5, true, .el .addr⟩], fun (z_ : Int × SCache × SAddr × Unit) (x_ : Int × SCache × SAddr × Unit) => ((0 ≤ x_.1 ∧ x_.1 ≤ c.entries.length ∧ fidx (fun e => decide (e.top = t) && decide (e.to = a)) (c.entries.drop x_.1.toNat) x_.1 = fidx (fun e => decide (e.top = t) && decide (e.to = a)) c.entries 0) ∧ x_.2.1 = z_.2.1) ∧ x_.2.2.1 = z_.2.2.1, fun (x_ : Int × SCache × SAddr × Unit) => c.entries.length - x_.1.toNat⟩
theorem k224_221 : fFindEntry.ok Tryz.prog 224 := Fct.of (S := fFindEntry) (L := fun ⟨c, t, a, _⟩ => fun | 2 => some (W_spec_l13Find_fFindEntry_2 c t a) | _ => none) (kp := [1,3,5,6,7,12,32,1000012,1000032]) E221ok Tryz.func224 (by kernel_rfl) (by kernel_rfl) (by
  rintro ⟨(c : SCache), (t : ByteArray), (a : SAddr), _⟩ hp
  refine ho (lpx (W_spec_l13Find_fFindEntry_2 c t a) ((0 : Int), (c, (a, ()))) fun (y1 : Int × SCache × SAddr × PUnit) bk1 => .br (decide (y1.1 < (↑y1.2.1.entries.length : Int))) (.ob (inB y1.1 y1.2.1.entries.length) <| .br ((y1.2.1.entries.getD y1.1.toNat default).top.toList == t.toList) (.ob (inB y1.1 y1.2.1.entries.length) <| .br ((y1.2.1.entries.getD y1.1.toNat default).to.host == y1.2.2.1.host && ((y1.2.1.entries.getD y1.1.toNat default).to.path == y1.2.2.1.path && true)) (.lf fFindEntry (y1.1, ())) (.ob (Value.string t = Value.string t) <| .ob (bk1 (w1 y1.1, (y1.2.1, (y1.2.2.1, ())))) <| .ok)) (.ob (Value.string t = Value.string t) <| .ob (bk1 (w1 y1.1, (y1.2.1, (y1.2.2.1, ())))) <| .ok)) (.lf fFindEntry ((-1 : Int), ()))) ?_
  refine lpx_i ?_ fun (y1 : Int × SCache × SAddr × PUnit) i1 => br_i (fun h2 => ob_i ?_ fun o3 => br_i (fun h4 => ob_i ?_ fun o5 => br_i (fun h6 => lfY ?_) (fun h6 => ob_i rfl fun _ => ob_i ?_ fun o7 => trivial)) (fun h4 => ob_i rfl fun _ => ob_i ?_ fun o8 => trivial)) (fun h2 => lfY ?_)
  all_goals
   try simp only [beqAddr] at *
   try simp only [W_spec_l13Find_fFindEntry_2, fFindEntry, std, Nat.reduceAdd, fidx] at *
   try simp (disch := omega) only [wrapId', toNat1] at *
   try simp (disch := omega) only [if_pos, if_neg]
  all_goals first | trivial | omega | grind [wrapId', toNat1, drop_cons, drop_end, good_len, maxLen, fidx])
def E222 := E221.add 224 fFindEntry
theorem E222ok : EOk Tryz.prog E222 := E221ok.add k224_221
def fEntryAt1 : Fct := ⟨[.v (.el .entry), .p (.el .str), .p (.el .addr)], [.el .bool], fun (x_ : SEntry × ByteArray × SAddr × Unit) => True, fun (x_ : SEntry × ByteArray × SAddr × Unit) => (decide (x_.1.top = x_.2.1) && decide (x_.1.to = x_.2.2.1), ())⟩
theorem k263_222 : fEntryAt1.ok Tryz.prog 263 := Fct.o [1,2,3,4] E222ok Tryz.func263 (by
  rintro ⟨(e : SEntry), (t : ByteArray), (a : SAddr), _⟩ hp
  refine ho (.br (e.top.toList == ByteArray.toList t) (.lf fEntryAt1 (e.to.host == a.host && (e.to.path == a.path && true), ())) (.lf fEntryAt1 (false, ()))) ?_
  refine br_i (fun h1 => lfY ?_) (fun h1 => lfY ?_)
  all_goals
   try simp only [beqAddr] at *
   try simp only [fEntryAt1, std, Nat.reduceAdd] at *
   try simp (disch := omega) only [wrapId', toNat1] at *
   try simp (disch := omega) only [if_pos, if_neg]
  all_goals first | trivial | omega | grind [wrapId', toNat1, drop_cons, drop_end, good_len, maxLen])
def E223 := E222.add 263 fEntryAt1
theorem E223ok : EOk Tryz.prog E223 := E222ok.add k263_222
def fIndexFunc_entry_impl_entryAt_1 : Fct := ⟨[aL .entry, .c 263 [.el .str, .el .addr]], [rI], fun x => x.1.length ≤ 1000000000000000000 ∧ ∀ c, fEntryAt1.pre (c, x.2.1), fun x => (fidx (fun c => (fEntryAt1.fn (c, x.2.1)).1) x.1 0, ())⟩
abbrev W_slices_IndexFunc_impl_Entry_impl_Entry_fIndexFunc_entry_impl_entryAt_1_2 (l : (List SEntry)) (u : (ByteArray × SAddr × Unit)) : LInv := ⟨[⟨.s, 8, true, .el .int⟩], fun _ (x_ : Int × Unit) => 0 ≤ x_.1 ∧ x_.1 ≤ l.length ∧ fidx (fun c => (fEntryAt1.fn (c, u)).1) l 0 = fidx (fun c => (fEntryAt1.fn (c, u)).1) (l.drop x_.1.toNat) x_.1, fun (x_ : Int × Unit) => l.length - x_.1.toNat⟩
theorem k187_223 : fIndexFunc_entry_impl_entryAt_1.ok Tryz.prog 187 := Fct.of (S := fIndexFunc_entry_impl_entryAt_1) (L := fun ⟨l, u, _⟩ => fun | 2 => some (W_slices_IndexFunc_impl_Entry_impl_Entry_fIndexFunc_entry_impl_entryAt_1_2 l u) | _ => none) (kp := [0,1,4,5,7,8,9,16,1000009,1000016]) E223ok Tryz.func187 (by kernel_rfl) (by kernel_rfl) (by
  rintro ⟨(l : List SEntry), (u : ByteArray × SAddr × PUnit), _⟩ hp
  refine ho (lpx (W_slices_IndexFunc_impl_Entry_impl_Entry_fIndexFunc_entry_impl_entryAt_1_2 l u) ((0 : Int), ()) fun (y1 : Int × PUnit) bk1 => .br (decide (y1.1 < (↑l.length : Int))) (.ob (inB y1.1 l.length) <| .cl fEntryAt1 (l.getD y1.1.toNat default, u.1, u.2.1, ()) fun z2 => .br (z2.1) (.lf fIndexFunc_entry_impl_entryAt_1 (y1.1, ())) (.ob (l = l) <| .ob (enc Ty.str u.1 = enc Ty.str u.1) <| .ob (enc Ty.addr u.2.1 = enc Ty.addr u.2.1) <| .ob (Value.int IntKind.i64 (↑l.length : Int) = Value.int IntKind.i64 (↑l.length : Int)) <| .ob (bk1 (w1 y1.1, ())) <| .ok)) (.lf fIndexFunc_entry_impl_entryAt_1 ((-1 : Int), ()))) ?_
  refine lpx_i ?_ fun (y1 : Int × PUnit) i1 => br_i (fun h2 => ob_i ?_ fun o3 => cl_i trivial fun _ => (br_i (fun h4 => lfY ?_) (fun h4 => ob_i rfl fun _ => ob_i rfl fun _ => ob_i rfl fun _ => ob_i rfl fun _ => ob_i ?_ fun o5 => trivial))) (fun h2 => lfY ?_)
  all_goals
   try simp only [W_slices_IndexFunc_impl_Entry_impl_Entry_fIndexFunc_entry_impl_entryAt_1_2, fEntryAt1, fIndexFunc_entry_impl_entryAt_1, std, Nat.reduceAdd] at *
   try have hp2 := hp.2
   try have hp1 := hp.1
  all_goals first | trivial | omega | grind [wrapId', toNat1, drop_cons, drop_end, good_len, maxLen, fidx])
def E224 := E223.add 187 fIndexFunc_entry_impl_entryAt_1
theorem E224ok : EOk Tryz.prog E224 := E223ok.add k187_223
theorem k244_224 : fFindEntry.ok Tryz.prog 244 := Fct.o [3,4,5,6] E224ok Tryz.func244 (by
  rintro ⟨(c : SCache), (t : ByteArray), (a : SAddr), _⟩ hp
  refine ho (.cl fIndexFunc_entry_impl_entryAt_1 (c.entries, (t, a, ()), ()) fun z2 => .lf fFindEntry (z2.1, ())) ?_
  refine cl_i ?_ fun o1 => (lfY ?_)
  all_goals
   try simp only [fFindEntry, fIndexFunc_entry_impl_entryAt_1, std, Nat.reduceAdd, fEntryAt1] at *
   try simp (disch := omega) only [wrapId', toNat1] at *
   try simp (disch := omega) only [if_pos, if_neg]
  all_goals first | trivial | omega | grind [wrapId', toNat1, drop_cons, drop_end, good_len, maxLen, fEntryAt1])
def E225 := E224.add 244 fFindEntry
theorem E225ok : EOk Tryz.prog E225 := E224ok.add k244_224
def freshEntry (t : ByteArray) (a : SAddr) (now : Int) (e : SEntry) : Bool := decide (e.top = t) && (decide (e.to = a) && decide (now ≤ e.until_))
def lookUp (c : SCache) (t : ByteArray) (a : SAddr) (now : Int) : Option SResponse := (c.entries.find? (freshEntry t a now)).map (·.response)
def fLookUp : Fct := ⟨[.v (.el .cache), .v (.el .str), .v (.el .addr), .v (.el .int)], [.el .response, .el .bool], fun (x_ : SCache × ByteArray × SAddr × Int × Unit) => x_.1.entries.length ≤ 1000000000000, fun (x_ : SCache × ByteArray × SAddr × Int × Unit) => ((lookUp x_.1 x_.2.1 x_.2.2.1 x_.2.2.2.1).getD notFound, (lookUp x_.1 x_.2.1 x_.2.2.1 x_.2.2.2.1).isSome, ())⟩
theorem find_fidx {α : Type} [Inhabited α] (p : α → Bool) : ∀ (l : List α) (i : Int), 0 ≤ i → l.find? p = if 0 ≤ fidx p l i then some (l.getD (fidx p l i - i).toNat default) else none := by
  intro l
  induction l with
  | nil => intro i _; simp [fidx]
  | cons x l ih =>
    intro i hi
    simp only [List.find?_cons, fidx]
    by_cases hx : p x = true
    · simp [hx, hi]
    ·
      have hx : p x = false := by simpa using hx
      have h1 := fidx_lt p l (i + 1) (by omega)
      have h2 := ih (i + 1) (by omega)
      simp only [hx, Bool.false_eq_true, if_false, h2]
      split
      · rename_i h3
        have h4 : i + 1 ≤ fidx p l (i + 1) := by
          have : ∀ (l : List α) (i : Int), 0 ≤ i → 0 ≤ fidx p l i → i ≤ fidx p l i := by
            intro l
            induction l with
            | nil => intro i _ h; simp [fidx] at h
            | cons y l ih =>
              intro i hi h
              simp only [fidx] at h ⊢
              split
              · omega
              · rename_i hy
                rw [if_neg hy] at h
                have := ih (i + 1) (by omega) h
                omega
          exact this l (i + 1) (by omega) h3
        have h5 : (fidx p l (i + 1) - i).toNat = (fidx p l (i + 1) - (i + 1)).toNat + 1 := by omega
        rw [h5]; rfl
      · rfl
abbrev W_spec_LookUp_fLookUp_2 (c : SCache) (t : ByteArray) (a : SAddr) (now : Int) : LInv := ⟨[⟨.s, 10, true, .el .int⟩, ⟨.b, 4, false, .el .cache⟩, ⟨.b, 6, true, .el .addr⟩, ⟨.b, 8, true, .el .response⟩], fun (z_ : Int × SCache × SAddr × SResponse × Unit) (x_ : Int × SCache × SAddr × SResponse × Unit) => (((0 ≤ x_.1 ∧ x_.1 ≤ c.entries.length ∧ (c.entries.drop x_.1.toNat).find? (freshEntry t a now) = c.entries.find? (freshEntry t a now)) ∧ x_.2.1 = z_.2.1) ∧ x_.2.2.1 = z_.2.2.1) ∧ x_.2.2.2.1 = z_.2.2.2.1, fun (x_ : Int × SCache × SAddr × SResponse × Unit) => c.entries.length - x_.1.toNat⟩
theorem k74_225 : fLookUp.ok Tryz.prog 74 := Fct.of (S := fLookUp) (L := fun ⟨c, t, a, now, _⟩ => fun | 2 => some (W_spec_LookUp_fLookUp_2 c t a now) | _ => none) (kp := [1,3,4,6,8,9,10,15,45,1000015,1000045]) E225ok Tryz.func74 (by kernel_rfl) (by kernel_rfl) (by
  rintro ⟨(c : SCache), (t : ByteArray), (a : SAddr), (now : Int), _⟩ hp
  refine ho (lpx (W_spec_LookUp_fLookUp_2 c t a now) ((0 : Int), (c, (a, (default, ())))) fun (y1 : Int × SCache × SAddr × SResponse × PUnit) bk1 => .br (decide (y1.1 < (↑y1.2.1.entries.length : Int))) (.ob (inB y1.1 y1.2.1.entries.length) <| .br ((y1.2.1.entries.getD y1.1.toNat default).top.toList == t.toList) (.ob (inB y1.1 y1.2.1.entries.length) <| .br ((y1.2.1.entries.getD y1.1.toNat default).to.host == y1.2.2.1.host && ((y1.2.1.entries.getD y1.1.toNat default).to.path == y1.2.2.1.path && true)) (.ob (inB y1.1 y1.2.1.entries.length) <| .br (decide ((y1.2.1.entries.getD y1.1.toNat default).until_ ≥ now)) (.ob (inB y1.1 y1.2.1.entries.length) <| .lf fLookUp ((y1.2.1.entries.getD y1.1.toNat default).response, true, ())) (.ob (Value.string t = Value.string t) <| .ob (Value.int IntKind.i64 now = Value.int IntKind.i64 now) <| .ob (bk1 (w1 y1.1, (y1.2.1, (y1.2.2.1, (y1.2.2.2.1, ()))))) <| .ok)) (.ob (Value.string t = Value.string t) <| .ob (Value.int IntKind.i64 now = Value.int IntKind.i64 now) <| .ob (bk1 (w1 y1.1, (y1.2.1, (y1.2.2.1, (y1.2.2.2.1, ()))))) <| .ok)) (.ob (Value.string t = Value.string t) <| .ob (Value.int IntKind.i64 now = Value.int IntKind.i64 now) <| .ob (bk1 (w1 y1.1, (y1.2.1, (y1.2.2.1, (y1.2.2.2.1, ()))))) <| .ok)) (.cl fNotFound () fun z2 => .lf fLookUp (z2.1, false, ()))) ?_
  refine lpx_i ?_ fun (y1 : Int × SCache × SAddr × SResponse × PUnit) i1 => br_i (fun h2 => ob_i ?_ fun o3 => br_i (fun h4 => ob_i ?_ fun o5 => br_i (fun h6 => ob_i ?_ fun o7 => br_i (fun h8 => ob_i ?_ fun o9 => lfY ?_) (fun h8 => ob_i rfl fun _ => ob_i rfl fun _ => ob_i ?_ fun o10 => trivial)) (fun h6 => ob_i rfl fun _ => ob_i rfl fun _ => ob_i ?_ fun o11 => trivial)) (fun h4 => ob_i rfl fun _ => ob_i rfl fun _ => ob_i ?_ fun o12 => trivial)) (fun h2 => cl_i trivial fun _ => (lfY ?_))
  all_goals
   try simp only [beqAddr] at *
   try simp only [W_spec_LookUp_fLookUp_2, fLookUp, fNotFound, std, Nat.reduceAdd, lookUp, freshEntry, fNotFound] at *
   try simp (disch := omega) only [wrapId', toNat1] at *
   try simp (disch := omega) only [if_pos, if_neg]
  all_goals first | trivial | omega | grind [wrapId', toNat1, drop_cons, drop_end, good_len, maxLen, lookUp, freshEntry, fNotFound])
def E226 := E225.add 74 fLookUp
theorem E226ok : EOk Tryz.prog E226 := E225ok.add k74_225
def fLookUp1 : Fct := ⟨[.v (.el .entry), .p (.el .str), .p (.el .addr), .p (.el .int)], [.el .bool], fun (x_ : SEntry × ByteArray × SAddr × Int × Unit) => True, fun (x_ : SEntry × ByteArray × SAddr × Int × Unit) => (freshEntry x_.2.1 x_.2.2.1 x_.2.2.2.1 x_.1, ())⟩
theorem k188_226 : fLookUp1.ok Tryz.prog 188 := Fct.o [1,2,3,4,5] E226ok Tryz.func188 (by
  rintro ⟨(e : SEntry), (t : ByteArray), (a : SAddr), (now : Int), _⟩ hp
  refine ho (.br (e.top.toList == ByteArray.toList t) (.br (e.to.host == a.host && (e.to.path == a.path && true)) (.lf fLookUp1 (decide (e.until_ ≥ now), ())) (.lf fLookUp1 (false, ()))) (.lf fLookUp1 (false, ()))) ?_
  refine br_i (fun h1 => br_i (fun h2 => lfY ?_) (fun h2 => lfY ?_)) (fun h1 => lfY ?_)
  all_goals
   try simp only [beqAddr] at *
   try simp only [fLookUp1, std, Nat.reduceAdd, freshEntry] at *
   try simp (disch := omega) only [wrapId', toNat1] at *
   try simp (disch := omega) only [if_pos, if_neg]
  all_goals first | trivial | omega | grind [wrapId', toNat1, drop_cons, drop_end, good_len, maxLen, freshEntry])
def E227 := E226.add 188 fLookUp1
theorem E227ok : EOk Tryz.prog E227 := E226ok.add k188_226
def fIndexFunc_entry_impl_LookUp_1 : Fct := ⟨[aL .entry, .c 188 [.el .str, .el .addr, .el .int]], [rI], fun x => x.1.length ≤ 1000000000000000000 ∧ ∀ c, fLookUp1.pre (c, x.2.1), fun x => (fidx (fun c => (fLookUp1.fn (c, x.2.1)).1) x.1 0, ())⟩
abbrev W_slices_IndexFunc_impl_Entry_impl_Entry_fIndexFunc_entry_impl_LookUp_1_2 (l : (List SEntry)) (u : (ByteArray × SAddr × Int × Unit)) : LInv := ⟨[⟨.s, 8, true, .el .int⟩], fun _ (x_ : Int × Unit) => 0 ≤ x_.1 ∧ x_.1 ≤ l.length ∧ fidx (fun c => (fLookUp1.fn (c, u)).1) l 0 = fidx (fun c => (fLookUp1.fn (c, u)).1) (l.drop x_.1.toNat) x_.1, fun (x_ : Int × Unit) => l.length - x_.1.toNat⟩
theorem k187_227 : fIndexFunc_entry_impl_LookUp_1.ok Tryz.prog 187 := Fct.of (S := fIndexFunc_entry_impl_LookUp_1) (L := fun ⟨l, u, _⟩ => fun | 2 => some (W_slices_IndexFunc_impl_Entry_impl_Entry_fIndexFunc_entry_impl_LookUp_1_2 l u) | _ => none) (kp := [0,1,4,5,7,8,9,16,1000009,1000016]) E227ok Tryz.func187 (by kernel_rfl) (by kernel_rfl) (by
  rintro ⟨(l : List SEntry), (u : ByteArray × SAddr × Int × PUnit), _⟩ hp
  refine ho (lpx (W_slices_IndexFunc_impl_Entry_impl_Entry_fIndexFunc_entry_impl_LookUp_1_2 l u) ((0 : Int), ()) fun (y1 : Int × PUnit) bk1 => .br (decide (y1.1 < (↑l.length : Int))) (.ob (inB y1.1 l.length) <| .cl fLookUp1 (l.getD y1.1.toNat default, u.1, u.2.1, u.2.2.1, ()) fun z2 => .br (z2.1) (.lf fIndexFunc_entry_impl_LookUp_1 (y1.1, ())) (.ob (l = l) <| .ob (enc Ty.str u.1 = enc Ty.str u.1) <| .ob (enc Ty.addr u.2.1 = enc Ty.addr u.2.1) <| .ob (enc Ty.int u.2.2.1 = enc Ty.int u.2.2.1) <| .ob (Value.int IntKind.i64 (↑l.length : Int) = Value.int IntKind.i64 (↑l.length : Int)) <| .ob (bk1 (w1 y1.1, ())) <| .ok)) (.lf fIndexFunc_entry_impl_LookUp_1 ((-1 : Int), ()))) ?_
  refine lpx_i ?_ fun (y1 : Int × PUnit) i1 => br_i (fun h2 => ob_i ?_ fun o3 => cl_i trivial fun _ => (br_i (fun h4 => lfY ?_) (fun h4 => ob_i rfl fun _ => ob_i rfl fun _ => ob_i rfl fun _ => ob_i rfl fun _ => ob_i rfl fun _ => ob_i ?_ fun o5 => trivial))) (fun h2 => lfY ?_)
  all_goals
   try simp only [W_slices_IndexFunc_impl_Entry_impl_Entry_fIndexFunc_entry_impl_LookUp_1_2, fIndexFunc_entry_impl_LookUp_1, fLookUp1, std, Nat.reduceAdd] at *
   try have hp2 := hp.2
   try have hp1 := hp.1
  all_goals first | trivial | omega | grind [wrapId', toNat1, drop_cons, drop_end, good_len, maxLen, fidx])
def E228 := E227.add 187 fIndexFunc_entry_impl_LookUp_1
theorem E228ok : EOk Tryz.prog E228 := E227ok.add k187_227
theorem k106_228 : fLookUp.ok Tryz.prog 106 := Fct.o [4,5,6,7,8,9,10,16,1000016] E228ok Tryz.func106 (by
  rintro ⟨(c : SCache), (t : ByteArray), (a : SAddr), (now : Int), _⟩ hp
  refine ho (.cl fIndexFunc_entry_impl_LookUp_1 (c.entries, (t, a, now, ()), ()) fun z2 => .br (decide (z2.1 < 0)) (.cl fNotFound () fun z3 => .lf fLookUp (z3.1, false, ())) (.ob (inB z2.1 c.entries.length) <| .lf fLookUp ((c.entries.getD z2.1.toNat default).response, true, ()))) ?_
  refine cl_i ?_ fun o1 => (br_i (fun h2 => cl_i trivial fun _ => (lfY ?_)) (fun h2 => ob_i ?_ fun o3 => lfY ?_))
  all_goals
   have hf := fidx_lt (freshEntry t a now) c.entries 0 (by omega)
   have hf2 := find_fidx (freshEntry t a now) c.entries 0 (by omega)
   try simp only [fIndexFunc_entry_impl_LookUp_1, fLookUp, fNotFound, std, Nat.reduceAdd, lookUp, fLookUp1, fNotFound] at *
   try simp (disch := omega) only [wrapId', toNat1] at *
   try simp (disch := omega) only [if_pos, if_neg]
  all_goals first | trivial | omega | grind [wrapId', toNat1, drop_cons, drop_end, good_len, maxLen, lookUp, fLookUp1, fNotFound])
def E229 := E228.add 106 fLookUp
theorem E229ok : EOk Tryz.prog E229 := E228ok.add k106_228
theorem getD_in {α : Type} [Inhabited α] {l : List α} {i : Nat} (h : i < l.length) : l.getD i default ∈ l := by
  rw [List.getD_eq_getElem?_getD, List.getElem?_eq_getElem h]; exact List.getElem_mem _
theorem isName_size {s : ByteArray} (h : isName s = true) : s.size ≤ 8 := by
  simp only [isName, Bool.and_eq_true, decide_eq_true_eq] at h; omega
def words9 : ByteArray → List ByteArray → ByteArray
  | w, [] => w
  | w, x :: l => words9 (w ++ ⟨#[32]⟩ ++ x) l
theorem words9_at {w : ByteArray} {l : List ByteArray} {i : Nat} (h : i < l.length) : words9 w (l.drop i) = words9 (w ++ ⟨#[32]⟩ ++ l.getD i default) (l.drop (i + 1)) := by rw [drop_cons h]; rfl
theorem words9_end {w : ByteArray} {l : List ByteArray} {i : Nat} (h : l.length ≤ i) : words9 w (l.drop i) = w := by rw [List.drop_of_length_le h]; rfl
theorem words9_size : ∀ (l : List ByteArray) (w : ByteArray), l.all isName = true → (words9 w l).size ≤ w.size + 9 * l.length := by
  intro l
  induction l with
  | nil => intro w _; simp [words9]
  | cons x l ih =>
    intro w h
    simp only [List.all_cons, Bool.and_eq_true] at h
    have h1 := isName_size h.1
    have h2 := ih (w ++ ⟨#[32]⟩ ++ x) h.2
    simp only [words9, List.length_cons]
    rw [ByteArray.size_append, ByteArray.size_append, show ByteArray.size ⟨#[32]⟩ = 1 from rfl] at h2
    omega
def fWords9 : Fct := ⟨[.v (.el .str), .v (.sl .str)], [.el .str], fun (x_ : ByteArray × (List ByteArray) × Unit) => x_.1.size ≤ 100 ∧ x_.2.1.length ≤ 4 ∧ x_.2.1.all isName = true, fun (x_ : ByteArray × (List ByteArray) × Unit) => (words9 x_.1 x_.2.1, ())⟩
abbrev W_spec_l9Words_fWords9_2 (w : ByteArray) (l : (List ByteArray)) : LInv := ⟨[⟨.s, 0, true, .el .str⟩, ⟨.s, 5, true, .el .int⟩], fun _ (x_ : ByteArray × Int × Unit) => 0 ≤ x_.2.1 ∧ x_.2.1 ≤ l.length ∧ x_.1.size ≤ 100 + 9 * x_.2.1 ∧ words9 x_.1 (l.drop x_.2.1.toNat) = words9 w l, fun (x_ : ByteArray × Int × Unit) => l.length - x_.2.1.toNat⟩
theorem k267_229 : fWords9.ok Tryz.prog 267 := Fct.of (S := fWords9) (L := fun ⟨w, l, _⟩ => fun | 2 => some (W_spec_l9Words_fWords9_2 w l) | _ => none) (kp := [0,1,4,5,9,1000009]) E229ok Tryz.func267 (by kernel_rfl) (by kernel_rfl) (by
  rintro ⟨(w : ByteArray), (l : List ByteArray), _⟩ hp
  refine ho (lpx (W_spec_l9Words_fWords9_2 w l) (w, ((0 : Int), ())) fun (y1 : ByteArray × Int × PUnit) bk1 => .br (decide (y1.2.1 < (↑l.length : Int))) (.ob (sameSize y1.1 (⟨#[32]⟩ : ByteArray)) <| .ob (inB y1.2.1 l.length) <| .ob (sameSize (y1.1 ++ (⟨#[32]⟩ : ByteArray)) (l.getD y1.2.1.toNat default)) <| .ob (l = l) <| .ob (Value.string (⟨#[]⟩ : ByteArray) = Value.string (⟨#[]⟩ : ByteArray)) <| .ob (bk1 (y1.1 ++ (⟨#[32]⟩ : ByteArray) ++ l.getD y1.2.1.toNat default, (w1 y1.2.1, ()))) <| .ok) (.lf fWords9 (y1.1, ()))) ?_
  refine lpx_i ?_ fun (y1 : ByteArray × Int × PUnit) i1 => br_i (fun h2 => ob_i ?_ fun o3 => ob_i ?_ fun o4 => ob_i ?_ fun o5 => ob_i rfl fun _ => ob_i rfl fun _ => ob_i ?_ fun o6 => trivial) (fun h2 => lfY ?_)
  all_goals
   have hg : ∀ i, i < l.length → (l.getD i default).size ≤ 8 := fun i h => isName_size (List.all_eq_true.1 hp.2.2 _ (getD_in h))
   try simp only [W_spec_l9Words_fWords9_2, fWords9, std, Nat.reduceAdd, words9_at, words9_end, sameSize, ByteArray.size_append] at *
   try simp (disch := omega) only [wrapId', toNat1] at *
   try simp (disch := omega) only [if_pos, if_neg]
  all_goals first | trivial | omega | grind [wrapId', toNat1, good_len, maxLen, words9_at, words9_end, sameSize, ByteArray.size_append])
def E230 := E229.add 267 fWords9
theorem E230ok : EOk Tryz.prog E230 := E229ok.add k267_229
def formatPolicy (p : SPolicy) : ByteArray := if isPolicy p && p.set_ then (if p.nonce = ⟨#[]⟩ then words9 ⟨#[115, 99, 114, 105, 112, 116]⟩ p.scripts ++ ⟨#[59]⟩ ++ words9 ⟨#[115, 116, 121, 108, 101]⟩ p.styles ++ ⟨#[59]⟩ ++ words9 ⟨#[105, 109, 103]⟩ p.images else words9 ⟨#[115, 99, 114, 105, 112, 116]⟩ p.scripts ++ ⟨#[59]⟩ ++ words9 ⟨#[115, 116, 121, 108, 101]⟩ p.styles ++ ⟨#[59]⟩ ++ words9 ⟨#[105, 109, 103]⟩ p.images ++ ⟨#[59, 110, 111, 110, 99, 101, 32]⟩ ++ p.nonce) else ⟨#[]⟩
theorem isPolicy_set {p : SPolicy} (h : isPolicy p = true) (hs : p.set_ = true) : p.scripts.all isName = true ∧ p.scripts.length ≤ 4 ∧ p.styles.all isName = true ∧ p.styles.length ≤ 4 ∧ p.images.all isName = true ∧ p.images.length ≤ 4 ∧ p.nonce.size ≤ 20 := by
  simp only [isPolicy, hs, if_true, Bool.and_eq_true, Bool.or_eq_true, decide_eq_true_eq] at h
  obtain ⟨⟨⟨⟨a1, a2⟩, a3, a4⟩, a5, a6⟩, a7⟩ := h
  refine ⟨a1, a2, a3, a4, a5, a6, ?_⟩
  rcases a7 with h | h
  · rw [h]; exact Nat.zero_le _
  · simp only [isValue, Bool.and_eq_true, decide_eq_true_eq] at h; omega
theorem words9_sz {l : List ByteArray} {w : ByteArray} (h : l.all isName = true) (hl : l.length ≤ 4) (hw : w.size ≤ 6) : (words9 w l).size ≤ 42 := by
  have := words9_size l w h; omega
def fFormatPolicy : Fct := ⟨[.v (.el .policy)], [.el .str], fun (x_ : SPolicy × Unit) => szPolicy x_.1 ≤ 1099511627776, fun (x_ : SPolicy × Unit) => (formatPolicy x_.1, ())⟩
theorem k253_230 : fFormatPolicy.ok Tryz.prog 253 := Fct.o [1,2,3,11,27,1000011,1000027] E230ok Tryz.func253 (by
  rintro ⟨(p : SPolicy), _⟩ hp
  refine ho (.cl fIsPolicy (p, ()) fun z2 => .br (!z2.1) (.lf fFormatPolicy ((⟨#[]⟩ : ByteArray), ())) (.br (!p.set_) (.lf fFormatPolicy ((⟨#[]⟩ : ByteArray), ())) (.cl fWords9 ((⟨#[115, 99, 114, 105, 112, 116]⟩ : ByteArray), p.scripts, ()) fun z3 => .ob (sameSize z3.1 (⟨#[59]⟩ : ByteArray)) <| .cl fWords9 ((⟨#[115, 116, 121, 108, 101]⟩ : ByteArray), p.styles, ()) fun z4 => .ob (sameSize (z3.1 ++ (⟨#[59]⟩ : ByteArray)) z4.1) <| .ob (sameSize (z3.1 ++ (⟨#[59]⟩ : ByteArray) ++ z4.1) (⟨#[59]⟩ : ByteArray)) <| .cl fWords9 ((⟨#[105, 109, 103]⟩ : ByteArray), p.images, ()) fun z5 => .ob (sameSize (z3.1 ++ (⟨#[59]⟩ : ByteArray) ++ z4.1 ++ (⟨#[59]⟩ : ByteArray)) z5.1) <| .br (!p.nonce.toList == (⟨#[]⟩ : ByteArray).toList) (.ob (sameSize (z3.1 ++ (⟨#[59]⟩ : ByteArray) ++ z4.1 ++ (⟨#[59]⟩ : ByteArray) ++ z5.1) (⟨#[59, 110, 111, 110, 99, 101, 32]⟩ : ByteArray)) <| .ob (sameSize (z3.1 ++ (⟨#[59]⟩ : ByteArray) ++ z4.1 ++ (⟨#[59]⟩ : ByteArray) ++ z5.1 ++ (⟨#[59, 110, 111, 110, 99, 101, 32]⟩ : ByteArray)) p.nonce) <| .lf fFormatPolicy (z3.1 ++ (⟨#[59]⟩ : ByteArray) ++ z4.1 ++ (⟨#[59]⟩ : ByteArray) ++ z5.1 ++ (⟨#[59, 110, 111, 110, 99, 101, 32]⟩ : ByteArray) ++ p.nonce, ())) (.lf fFormatPolicy (z3.1 ++ (⟨#[59]⟩ : ByteArray) ++ z4.1 ++ (⟨#[59]⟩ : ByteArray) ++ z5.1, ()))))) ?_
  refine cl_i ?_ fun o1 => (br_i (fun h2 => lfY ?_) (fun h2 => br_i (fun h3 => lfY ?_) (fun h3 => cl_i ?_ fun o4 => (ob_i ?_ fun o5 => cl_i ?_ fun o6 => (ob_i ?_ fun o7 => ob_i ?_ fun o8 => cl_i ?_ fun o9 => (ob_i ?_ fun o10 => br_i (fun h11 => ob_i ?_ fun o12 => ob_i ?_ fun o13 => lfY ?_) (fun h11 => lfY ?_)))))))
  all_goals try simp only [fFormatPolicy, fIsPolicy, fWords9, std, Nat.reduceAdd] at *
  all_goals first | trivial | omega | skip
  all_goals try (have hA : isPolicy p = true := by assumption
                 have hB : p.set_ = true := by assumption
                 obtain ⟨a1, a2, a3, a4, a5, a6, a7⟩ := isPolicy_set hA hB)
  all_goals
   try have b1 := words9_sz (w := ⟨#[115, 99, 114, 105, 112, 116]⟩) a1 a2 (by decide)
   try have b2 := words9_sz (w := ⟨#[115, 116, 121, 108, 101]⟩) a3 a4 (by decide)
   try have b3 := words9_sz (w := ⟨#[105, 109, 103]⟩) a5 a6 (by decide)
   try simp only [fFormatPolicy, fIsPolicy, fWords9, std, Nat.reduceAdd, formatPolicy, sameSize, ByteArray.size_append] at *
   try simp (disch := omega) only [wrapId', toNat1] at *
   try simp (disch := omega) only [if_pos, if_neg]
  all_goals first | trivial | omega | grind [wrapId', toNat1, drop_cons, drop_end, good_len, maxLen, formatPolicy, sameSize, ByteArray.size_append])
def E231 := E230.add 253 fFormatPolicy
theorem E231ok : EOk Tryz.prog E231 := E230ok.add k253_230
def findGuess (l : List SGuess) (a : SAddr) : Int := fidx (fun g => decide (g.to = a)) l 0
def fFindGuess : Fct := ⟨[.v (.sl .guess), .v (.el .addr)], [.el .int], fun (x_ : (List SGuess) × SAddr × Unit) => x_.1.length ≤ 1048576, fun (x_ : (List SGuess) × SAddr × Unit) => (findGuess x_.1 x_.2.1, ())⟩
abbrev W_spec_FindGuess_fFindGuess_2 (l : (List SGuess)) (a : SAddr) : LInv := ⟨[⟨.s, 5, true, .el .int⟩, ⟨.b, 3, true, .el .addr⟩], fun (z_ : Int × SAddr × Unit) (x_ : Int × SAddr × Unit) => (0 ≤ x_.1 ∧ x_.1 ≤ l.length ∧ fidx (fun g => decide (g.to = a)) (l.drop x_.1.toNat) x_.1 = findGuess l a) ∧ x_.2.1 = z_.2.1, fun (x_ : Int × SAddr × Unit) => l.length - x_.1.toNat⟩
theorem k20_231 : fFindGuess.ok Tryz.prog 20 := Fct.of (S := fFindGuess) (L := fun ⟨l, a, _⟩ => fun | 2 => some (W_spec_FindGuess_fFindGuess_2 l a) | _ => none) (kp := [0,3,4,5,9,18,1000009,1000018]) E231ok Tryz.func20 (by kernel_rfl) (by kernel_rfl) (by
  rintro ⟨(l : List SGuess), (a : SAddr), _⟩ hp
  refine ho (lpx (W_spec_FindGuess_fFindGuess_2 l a) ((0 : Int), (a, ())) fun (y1 : Int × SAddr × PUnit) bk1 => .br (decide (y1.1 < (↑l.length : Int))) (.ob (inB y1.1 l.length) <| .br ((l.getD y1.1.toNat default).to.host == y1.2.1.host && ((l.getD y1.1.toNat default).to.path == y1.2.1.path && true)) (.lf fFindGuess (y1.1, ())) (.ob (l = l) <| .ob (bk1 (w1 y1.1, (y1.2.1, ()))) <| .ok)) (.lf fFindGuess ((-1 : Int), ()))) ?_
  refine lpx_i ?_ fun (y1 : Int × SAddr × PUnit) i1 => br_i (fun h2 => ob_i ?_ fun o3 => br_i (fun h4 => lfY ?_) (fun h4 => ob_i rfl fun _ => ob_i ?_ fun o5 => trivial)) (fun h2 => lfY ?_)
  all_goals
   try simp only [beqAddr] at *
   try simp only [W_spec_FindGuess_fFindGuess_2, fFindGuess, std, Nat.reduceAdd, findGuess, fidx] at *
   try simp (disch := omega) only [wrapId', toNat1] at *
   try simp (disch := omega) only [if_pos, if_neg]
  all_goals first | trivial | omega | grind [wrapId', toNat1, drop_cons, drop_end, good_len, maxLen, findGuess, fidx])
def E232 := E231.add 20 fFindGuess
theorem E232ok : EOk Tryz.prog E232 := E231ok.add k20_231
def fFindGuess1 : Fct := ⟨[.v (.el .guess), .p (.el .addr)], [.el .bool], fun (x_ : SGuess × SAddr × Unit) => True, fun (x_ : SGuess × SAddr × Unit) => (decide (x_.1.to = x_.2.1), ())⟩
theorem k101_232 : fFindGuess1.ok Tryz.prog 101 := Fct.o [1,2,3] E232ok Tryz.func101 (by
  rintro ⟨(g : SGuess), (a : SAddr), _⟩ hp
  refine ho (.lf fFindGuess1 (g.to.host == a.host && (g.to.path == a.path && true), ())) ?_
  refine lfY ?_
  all_goals
   try simp only [beqAddr] at *
   try simp only [fFindGuess1, std, Nat.reduceAdd] at *
   try simp (disch := omega) only [wrapId', toNat1] at *
   try simp (disch := omega) only [if_pos, if_neg]
  all_goals first | trivial | omega | grind [wrapId', toNat1, drop_cons, drop_end, good_len, maxLen])
def E233 := E232.add 101 fFindGuess1
theorem E233ok : EOk Tryz.prog E233 := E232ok.add k101_232
def fIndexFunc_guess_impl_FindGuess_1 : Fct := ⟨[aL .guess, .c 101 [.el .addr]], [rI], fun x => x.1.length ≤ 1000000000000000000 ∧ ∀ c, fFindGuess1.pre (c, x.2.1), fun x => (fidx (fun c => (fFindGuess1.fn (c, x.2.1)).1) x.1 0, ())⟩
abbrev W_slices_IndexFunc_impl_Guess_impl_Guess_fIndexFunc_guess_impl_FindGuess_1_2 (l : (List SGuess)) (u : (SAddr × Unit)) : LInv := ⟨[⟨.s, 8, true, .el .int⟩], fun _ (x_ : Int × Unit) => 0 ≤ x_.1 ∧ x_.1 ≤ l.length ∧ fidx (fun c => (fFindGuess1.fn (c, u)).1) l 0 = fidx (fun c => (fFindGuess1.fn (c, u)).1) (l.drop x_.1.toNat) x_.1, fun (x_ : Int × Unit) => l.length - x_.1.toNat⟩
theorem k100_233 : fIndexFunc_guess_impl_FindGuess_1.ok Tryz.prog 100 := Fct.of (S := fIndexFunc_guess_impl_FindGuess_1) (L := fun ⟨l, u, _⟩ => fun | 2 => some (W_slices_IndexFunc_impl_Guess_impl_Guess_fIndexFunc_guess_impl_FindGuess_1_2 l u) | _ => none) (kp := [0,1,4,5,7,8,9,16,1000009,1000016]) E233ok Tryz.func100 (by kernel_rfl) (by kernel_rfl) (by
  rintro ⟨(l : List SGuess), (u : SAddr × PUnit), _⟩ hp
  refine ho (lpx (W_slices_IndexFunc_impl_Guess_impl_Guess_fIndexFunc_guess_impl_FindGuess_1_2 l u) ((0 : Int), ()) fun (y1 : Int × PUnit) bk1 => .br (decide (y1.1 < (↑l.length : Int))) (.ob (inB y1.1 l.length) <| .cl fFindGuess1 (l.getD y1.1.toNat default, u.1, ()) fun z2 => .br (z2.1) (.lf fIndexFunc_guess_impl_FindGuess_1 (y1.1, ())) (.ob (l = l) <| .ob (enc Ty.addr u.1 = enc Ty.addr u.1) <| .ob (Value.int IntKind.i64 (↑l.length : Int) = Value.int IntKind.i64 (↑l.length : Int)) <| .ob (bk1 (w1 y1.1, ())) <| .ok)) (.lf fIndexFunc_guess_impl_FindGuess_1 ((-1 : Int), ()))) ?_
  refine lpx_i ?_ fun (y1 : Int × PUnit) i1 => br_i (fun h2 => ob_i ?_ fun o3 => cl_i trivial fun _ => (br_i (fun h4 => lfY ?_) (fun h4 => ob_i rfl fun _ => ob_i rfl fun _ => ob_i rfl fun _ => ob_i ?_ fun o5 => trivial))) (fun h2 => lfY ?_)
  all_goals
   try simp only [W_slices_IndexFunc_impl_Guess_impl_Guess_fIndexFunc_guess_impl_FindGuess_1_2, fFindGuess1, fIndexFunc_guess_impl_FindGuess_1, std, Nat.reduceAdd] at *
   try have hp2 := hp.2
   try have hp1 := hp.1
  all_goals first | trivial | omega | grind [wrapId', toNat1, drop_cons, drop_end, good_len, maxLen, fidx])
def E234 := E233.add 100 fIndexFunc_guess_impl_FindGuess_1
theorem E234ok : EOk Tryz.prog E234 := E233ok.add k100_233
theorem k33_234 : fFindGuess.ok Tryz.prog 33 := Fct.o [0,3,4] E234ok Tryz.func33 (by
  rintro ⟨(l : List SGuess), (a : SAddr), _⟩ hp
  refine ho (.cl fIndexFunc_guess_impl_FindGuess_1 (l, (a, ()), ()) fun z2 => .lf fFindGuess (z2.1, ())) ?_
  refine cl_i ?_ fun o1 => (lfY ?_)
  all_goals
   try simp only [fFindGuess, fIndexFunc_guess_impl_FindGuess_1, std, Nat.reduceAdd, fFindGuess1, findGuess] at *
   try simp (disch := omega) only [wrapId', toNat1] at *
   try simp (disch := omega) only [if_pos, if_neg]
  all_goals first | trivial | omega | grind [wrapId', toNat1, drop_cons, drop_end, good_len, maxLen, fFindGuess1, findGuess])
def E235 := E234.add 33 fFindGuess
theorem E235ok : EOk Tryz.prog E235 := E234ok.add k33_234
def fCopyGuesses : Fct := ⟨[.v (.sl .guess)], [.sl .guess], fun (x_ : (List SGuess) × Unit) => x_.1.length ≤ 1048576, fun (x_ : (List SGuess) × Unit) => (x_.1, ())⟩
theorem k94_235 : fCopyGuesses.ok Tryz.prog 94 := Fct.o [0,2] E235ok Tryz.func94 (by
  rintro ⟨(l : List SGuess), _⟩ hp
  refine ho (.ob (True) <| .ob (Room (0 + List.length l) 104) <| .lf fCopyGuesses ([] ++ l, ())) ?_
  refine ob_i trivial fun _ => ob_i ?_ fun o1 => lfY ?_
  all_goals
   try simp only [fCopyGuesses, std, Nat.reduceAdd] at *
   try simp (disch := omega) only [wrapId', toNat1] at *
   try simp (disch := omega) only [if_pos, if_neg]
  all_goals first | trivial | omega | grind [wrapId', toNat1, drop_cons, drop_end, good_len, maxLen])
def E236 := E235.add 94 fCopyGuesses
theorem E236ok : EOk Tryz.prog E236 := E235ok.add k94_235
theorem szL_eq {α : Type} (f : α → Nat) (l : List α) : szL f l = (l.map fun x => f x + 1).sum := by
  induction l with
  | nil => rfl
  | cons x l ih =>
    have h3 : szL f (x :: l) = f x + 1 + szL f l := by simp only [szL, List.map_cons, List.sum_cons, List.length_cons]; omega
    rw [h3, ih, List.map_cons, List.sum_cons]
theorem szL_spl (b : UInt8) (s : ByteArray) : szL szString (spl b s) = s.size + 1 := by
  rw [szL_eq, ← toL_len, ← splL_sum b (toL s)]
  unfold spl
  rw [List.map_map]
  congr 1
def fSplit5 : Fct := ⟨[.v (.el .str), .v (.el .u8)], [.sl .str], fun (x_ : ByteArray × Int × Unit) => x_.1.size ≤ 1099511627776 ∧ 0 ≤ x_.2.1 ∧ x_.2.1 ≤ 255, fun (x_ : ByteArray × Int × Unit) => (spl (UInt8.ofNat x_.2.1.toNat) x_.1, ())⟩
theorem byte_eq {s : ByteArray} {i : Nat} {b : Int} (h0 : 0 ≤ b) (h1 : b ≤ 255) : ((s.data.getD i 0).toNat : Int) = b ↔ s.data.getD i 0 = UInt8.ofNat b.toNat := by
  constructor
  · intro h
    apply UInt8.toNat_inj.1
    rw [UInt8.toNat_ofNat']; omega
  · intro h
    rw [h, UInt8.toNat_ofNat']; omega
abbrev W_spec_l5Split_fSplit5_4 (s : ByteArray) (b : Int) : LInv := ⟨[⟨.s, 5, true, .sl .str⟩, ⟨.s, 6, true, .el .int⟩, ⟨.s, 7, true, .el .int⟩], fun _ (x_ : (List ByteArray) × Int × Int × Unit) => 0 ≤ x_.2.2.1 ∧ x_.2.2.1 ≤ s.size + 1 ∧ 0 ≤ x_.2.1 ∧ x_.2.1 ≤ x_.2.2.1 ∧ x_.1.length ≤ x_.2.2.1 ∧ x_.1 ++ splAt (UInt8.ofNat b.toNat) s x_.2.1.toNat x_.2.2.1.toNat = spl (UInt8.ofNat b.toNat) s, fun (x_ : (List ByteArray) × Int × Int × Unit) => (s.size + 1 - x_.2.2.1).toNat⟩
theorem k252_236 : fSplit5.ok Tryz.prog 252 := Fct.of (S := fSplit5) (L := fun ⟨s, b, _⟩ => fun | 4 => some (W_spec_l5Split_fSplit5_4 s b) | _ => none) (kp := [0,1,4,5,6,7,12,25,1000012,1000025]) E236ok Tryz.func252 (by kernel_rfl) (by kernel_rfl) (by
  rintro ⟨(s : ByteArray), (b : Int), _⟩ hp
  refine ho (lpx (W_spec_l5Split_fSplit5_4 s b) ([], ((0 : Int), ((0 : Int), ()))) fun (y1 : List ByteArray × Int × Int × PUnit) bk1 => .br (decide (y1.2.2.1 ≤ (↑s.size : Int))) (.br (y1.2.2.1 == (↑s.size : Int)) (.ob (0 ≤ y1.2.1 ∧ y1.2.1 ≤ y1.2.2.1 ∧ y1.2.2.1 ≤ (↑s.size : Int)) <| .ob (True) <| .ob (Room (y1.1.length + [s.extract y1.2.1.toNat y1.2.2.1.toNat].length) 16) <| .ob (Value.string s = Value.string s) <| .ob (Value.int IntKind.u8 b = Value.int IntKind.u8 b) <| .ob (bk1 (y1.1 ++ [s.extract y1.2.1.toNat y1.2.2.1.toNat], (w1 y1.2.2.1, (w1 y1.2.2.1, ())))) <| .ok) (.ob (0 ≤ y1.2.2.1 ∧ y1.2.2.1 < (↑s.size : Int)) <| .br ((↑(s.data.getD y1.2.2.1.toNat 0).toNat : Int) == b) (.ob (0 ≤ y1.2.1 ∧ y1.2.1 ≤ y1.2.2.1 ∧ y1.2.2.1 ≤ (↑s.size : Int)) <| .ob (True) <| .ob (Room (y1.1.length + [s.extract y1.2.1.toNat y1.2.2.1.toNat].length) 16) <| .ob (Value.string s = Value.string s) <| .ob (Value.int IntKind.u8 b = Value.int IntKind.u8 b) <| .ob (bk1 (y1.1 ++ [s.extract y1.2.1.toNat y1.2.2.1.toNat], (w1 y1.2.2.1, (w1 y1.2.2.1, ())))) <| .ok) (.ob (Value.string s = Value.string s) <| .ob (Value.int IntKind.u8 b = Value.int IntKind.u8 b) <| .ob (bk1 (y1.1, (y1.2.1, (w1 y1.2.2.1, ())))) <| .ok))) (.lf fSplit5 (y1.1, ()))) ?_
  refine lpx_i ?_ fun (y1 : List ByteArray × Int × Int × PUnit) i1 => br_i (fun h2 => br_i (fun h3 => ob_i ?_ fun o4 => ob_i trivial fun _ => ob_i ?_ fun o5 => ob_i rfl fun _ => ob_i rfl fun _ => ob_i ?_ fun o6 => trivial) (fun h3 => ob_i ?_ fun o7 => br_i (fun h8 => ob_i ?_ fun o9 => ob_i trivial fun _ => ob_i ?_ fun o10 => ob_i rfl fun _ => ob_i rfl fun _ => ob_i ?_ fun o11 => trivial) (fun h8 => ob_i rfl fun _ => ob_i rfl fun _ => ob_i ?_ fun o12 => trivial))) (fun h2 => lfY ?_)
  all_goals obtain ⟨hp1, hp2, hp3⟩ := hp
  all_goals
   try obtain ⟨a1, a2, a3, a4, a5, a6⟩ := i1
   try obtain ⟨a1, a2, a3, a4, a5, a6⟩ := i2
   try obtain ⟨a1, a2, a3, a4, a5, a6⟩ := i3
   try simp only [W_spec_l5Split_fSplit5_4, fSplit5, std, Nat.reduceAdd, List.length_append, List.length_cons, List.length_nil, byte_eq hp2 hp3] at *
   try simp (disch := omega) only [wrapId', toNat1] at *
  all_goals first | trivial | omega | exact ⟨by omega, by omega, by omega, by omega, by omega, splAt_zero _ _⟩ | skip
  all_goals first | (refine ⟨⟨by omega, by omega, by omega, by omega, by omega, ?_⟩, by omega⟩; rw [splAt_last _ (by omega)] at a6; rw [splAt_end _ (by omega), List.append_nil]; exact a6) | (refine ⟨⟨by omega, by omega, by omega, by omega, by omega, ?_⟩, by omega⟩; rw [splAt_hit (by omega) (by assumption)] at a6; rw [List.append_assoc]; exact a6) | (refine ⟨⟨by omega, by omega, by omega, by omega, by omega, ?_⟩, by omega⟩; rw [splAt_miss (by omega) (by omega) (by assumption)] at a6; exact a6) | (rw [splAt_end _ (by omega), List.append_nil] at a6; exact a6) | skip)
def E237 := E236.add 252 fSplit5
theorem E237ok : EOk Tryz.prog E237 := E236ok.add k252_236
def polCand (s : ByteArray) : SPolicy := ⟨true, (spl 32 ((spl 59 s).getD 0 default)).drop 1, (spl 32 ((spl 59 s).getD 1 default)).drop 1, (spl 32 ((spl 59 s).getD 2 default)).drop 1, if 3 < (spl 59 s).length ∧ 6 < ((spl 59 s).getD 3 default).size then ((spl 59 s).getD 3 default).extract 6 ((spl 59 s).getD 3 default).size else ⟨#[]⟩⟩
def parsePolicy (s : ByteArray) : SPolicy × Bool := if s = ⟨#[]⟩ then (default, true) else if 3 ≤ (spl 59 s).length ∧ formatPolicy (polCand s) = s then (polCand s, true) else (default, false)
theorem spl_get (b : UInt8) (s : ByteArray) (k : Nat) : ((spl b s).getD k default).size ≤ s.size := by
  by_cases h : k < (spl b s).length
  · exact spl_mem (getD_in h)
  · rw [List.getD_eq_getElem?_getD, List.getElem?_eq_none (by omega)]; exact Nat.zero_le _
theorem pol_sz {s n : ByteArray} (hn : n.size ≤ s.size) : szPolicy ⟨true, (spl 32 ((spl 59 s).getD 0 default)).drop 1, (spl 32 ((spl 59 s).getD 1 default)).drop 1, (spl 32 ((spl 59 s).getD 2 default)).drop 1, n⟩ ≤ 4 * (s.size + 1) := by
  have h0 := spl_get 59 s 0
  have h1 := spl_get 59 s 1
  have h2 := spl_get 59 s 2
  have d0 := szL_drop szString (spl 32 ((spl 59 s).getD 0 default)) 1
  have d1 := szL_drop szString (spl 32 ((spl 59 s).getD 1 default)) 1
  have d2 := szL_drop szString (spl 32 ((spl 59 s).getD 2 default)) 1
  rw [szL_spl] at d0 d1 d2
  simp only [szPolicy]; omega
def fParsePolicy : Fct := ⟨[.v (.el .str)], [.el .policy, .el .bool], fun (x_ : ByteArray × Unit) => x_.1.size ≤ 200000000, fun (x_ : ByteArray × Unit) => ((parsePolicy x_.1).1, (parsePolicy x_.1).2, ())⟩
theorem k222_237 : fParsePolicy.ok Tryz.prog 222 := Fct.o [0,2,3,4,5,7,13,40,49,1000007,1000013,1000040,1000049] E237ok Tryz.func222 (by
  rintro ⟨(s : ByteArray), _⟩ hp
  refine ho (.br (ByteArray.toList s == { data := #[] : ByteArray }.toList)
 (.leaf (.tup [(true, [vb (false), .nl, .nl, .nl, vs ({ data := #[] : ByteArray })]), (false, [vb (true)])]) [] [])
 (.ob (fSplit5.pre (s, (59 : Int), ())) <|
  .lt (List ByteArray × PUnit) (fSplit5.fn (s, (59 : Int), ())) fun z2 =>
  .br (decide ((↑z2.fst.length : Int) < (3 : Int)))
   (.leaf (.tup [(true, [vb (false), .nl, .nl, .nl, vs ({ data := #[] : ByteArray })]), (false, [vb (false)])]) [] [])
   (.ob ((0 : Int) ≤ (0 : Int) ∧ (0 : Int) < (↑z2.fst.length : Int)) <|
    .ob ((0 : Nat) < z2.fst.length) <|
    .ob (fSplit5.pre (z2.fst.getD (0 : Nat) default, (32 : Int), ())) <|
    .lt (List ByteArray × PUnit) (fSplit5.fn (z2.fst.getD (0 : Nat) default, (32 : Int), ())) fun z3 =>
    .ob ((0 : Int) ≤ (1 : Int) ∧ (1 : Int) ≤ (↑z3.fst.length : Int)) <|
     .ob ((0 : Int) ≤ (1 : Int) ∧ (1 : Int) < (↑z2.fst.length : Int)) <|
     .ob ((1 : Nat) < z2.fst.length) <|
     .ob (fSplit5.pre (z2.fst.getD (1 : Nat) default, (32 : Int), ())) <|
     .lt (List ByteArray × PUnit) (fSplit5.fn (z2.fst.getD (1 : Nat) default, (32 : Int), ())) fun z4 =>
     .ob ((0 : Int) ≤ (1 : Int) ∧ (1 : Int) ≤ (↑z4.fst.length : Int)) <|
      .ob ((0 : Int) ≤ (2 : Int) ∧ (2 : Int) < (↑z2.fst.length : Int)) <|
      .ob ((2 : Nat) < z2.fst.length) <|
      .ob (fSplit5.pre (z2.fst.getD (2 : Nat) default, (32 : Int), ())) <|
      .lt (List ByteArray × PUnit) (fSplit5.fn (z2.fst.getD (2 : Nat) default, (32 : Int), ())) fun z5 =>
      .ob ((0 : Int) ≤ (1 : Int) ∧ (1 : Int) ≤ (↑z5.fst.length : Int)) <|
       .br (decide ((↑z2.fst.length : Int) > (3 : Int)))
       (.ob ((0 : Int) ≤ (3 : Int) ∧ (3 : Int) < (↑z2.fst.length : Int)) <|
        .ob ((3 : Nat) < z2.fst.length) <|
        .br (decide ((↑(z2.fst.getD (3 : Nat) default).size : Int) > (6 : Int)))
        (.ob ((0 : Int) ≤ (3 : Int) ∧ (3 : Int) < (↑z2.fst.length : Int)) <|
         .ob ((3 : Nat) < z2.fst.length) <|
         .ob ((0 : Int) ≤ (6 : Int) ∧ (6 : Int) ≤ (↑(z2.fst.getD (3 : Nat) default).size : Int)) <|
         .ob ((1 : Nat) + (z3.fst.length - (1 : Nat)) ≤ z3.fst.length) <|
         .ob ((1 : Nat) + (z4.fst.length - (1 : Nat)) ≤ z4.fst.length) <|
         .ob ((1 : Nat) + (z5.fst.length - (1 : Nat)) ≤ z5.fst.length) <|
         .ob (fFormatPolicy.pre ({ set_ := true, scripts := cut z3.fst (1 : Nat) (z3.fst.length - (1 : Nat)), styles := cut z4.fst (1 : Nat) (z4.fst.length - (1 : Nat)), images := cut z5.fst (1 : Nat) (z5.fst.length - (1 : Nat)), nonce := (z2.fst.getD (3 : Nat) default).extract (6 : Nat) (z2.fst.getD (3 : Nat) default).size : SPolicy }, ())) <|
         .lt (ByteArray × PUnit) (fFormatPolicy.fn ({ set_ := true, scripts := cut z3.fst (1 : Nat) (z3.fst.length - (1 : Nat)), styles := cut z4.fst (1 : Nat) (z4.fst.length - (1 : Nat)), images := cut z5.fst (1 : Nat) (z5.fst.length - (1 : Nat)), nonce := (z2.fst.getD (3 : Nat) default).extract (6 : Nat) (z2.fst.getD (3 : Nat) default).size : SPolicy }, ())) fun z6 =>
         .br (!z6.fst.toList == ByteArray.toList s)
          (.leaf (.tup [(true, [vb (false), .nl, .nl, .nl, vs ({ data := #[] : ByteArray })]), (false, [vb (false)])]) [] [])
          (.ob ((1 : Nat) + (z3.fst.length - (1 : Nat)) ≤ z3.fst.length) <|
           .ob ((1 : Nat) + (z4.fst.length - (1 : Nat)) ≤ z4.fst.length) <|
           .ob ((1 : Nat) + (z5.fst.length - (1 : Nat)) ≤ z5.fst.length) <|
           .leaf (mkR fParsePolicy.rs (⟨true, cut z3.fst (1 : Nat) (z3.fst.length - (1 : Nat)), cut z4.fst (1 : Nat) (z4.fst.length - (1 : Nat)), cut z5.fst (1 : Nat) (z5.fst.length - (1 : Nat)), (z2.fst.getD (3 : Nat) default).extract (6 : Nat) (z2.fst.getD (3 : Nat) default).size⟩, true, ())) [] []))
        (.ob ((1 : Nat) + (z3.fst.length - (1 : Nat)) ≤ z3.fst.length) <|
         .ob ((1 : Nat) + (z4.fst.length - (1 : Nat)) ≤ z4.fst.length) <|
         .ob ((1 : Nat) + (z5.fst.length - (1 : Nat)) ≤ z5.fst.length) <|
         .ob (fFormatPolicy.pre ({ set_ := true, scripts := cut z3.fst (1 : Nat) (z3.fst.length - (1 : Nat)), styles := cut z4.fst (1 : Nat) (z4.fst.length - (1 : Nat)), images := cut z5.fst (1 : Nat) (z5.fst.length - (1 : Nat)), nonce := { data := #[] : ByteArray } : SPolicy }, ())) <|
         .lt (ByteArray × PUnit) (fFormatPolicy.fn ({ set_ := true, scripts := cut z3.fst (1 : Nat) (z3.fst.length - (1 : Nat)), styles := cut z4.fst (1 : Nat) (z4.fst.length - (1 : Nat)), images := cut z5.fst (1 : Nat) (z5.fst.length - (1 : Nat)), nonce := { data := #[] : ByteArray } : SPolicy }, ())) fun z7 =>
         .br (!z7.fst.toList == ByteArray.toList s)
          (.leaf (.tup [(true, [vb (false), .nl, .nl, .nl, vs ({ data := #[] : ByteArray })]), (false, [vb (false)])]) [] [])
          (.ob ((1 : Nat) + (z3.fst.length - (1 : Nat)) ≤ z3.fst.length) <|
           .ob ((1 : Nat) + (z4.fst.length - (1 : Nat)) ≤ z4.fst.length) <|
           .ob ((1 : Nat) + (z5.fst.length - (1 : Nat)) ≤ z5.fst.length) <|
           .leaf (mkR fParsePolicy.rs (⟨true, cut z3.fst (1 : Nat) (z3.fst.length - (1 : Nat)), cut z4.fst (1 : Nat) (z4.fst.length - (1 : Nat)), cut z5.fst (1 : Nat) (z5.fst.length - (1 : Nat)), { data := #[] : ByteArray }⟩, true, ())) [] [])))
       (.ob ((1 : Nat) + (z3.fst.length - (1 : Nat)) ≤ z3.fst.length) <|
        .ob ((1 : Nat) + (z4.fst.length - (1 : Nat)) ≤ z4.fst.length) <|
        .ob ((1 : Nat) + (z5.fst.length - (1 : Nat)) ≤ z5.fst.length) <|
        .ob (fFormatPolicy.pre ({ set_ := true, scripts := cut z3.fst (1 : Nat) (z3.fst.length - (1 : Nat)), styles := cut z4.fst (1 : Nat) (z4.fst.length - (1 : Nat)), images := cut z5.fst (1 : Nat) (z5.fst.length - (1 : Nat)), nonce := { data := #[] : ByteArray } : SPolicy }, ())) <|
        .lt (ByteArray × PUnit) (fFormatPolicy.fn ({ set_ := true, scripts := cut z3.fst (1 : Nat) (z3.fst.length - (1 : Nat)), styles := cut z4.fst (1 : Nat) (z4.fst.length - (1 : Nat)), images := cut z5.fst (1 : Nat) (z5.fst.length - (1 : Nat)), nonce := { data := #[] : ByteArray } : SPolicy }, ())) fun z8 =>
        .br (!z8.fst.toList == ByteArray.toList s)
         (.leaf (.tup [(true, [vb (false), .nl, .nl, .nl, vs ({ data := #[] : ByteArray })]), (false, [vb (false)])]) [] [])
         (.ob ((1 : Nat) + (z3.fst.length - (1 : Nat)) ≤ z3.fst.length) <|
          .ob ((1 : Nat) + (z4.fst.length - (1 : Nat)) ≤ z4.fst.length) <|
          .ob ((1 : Nat) + (z5.fst.length - (1 : Nat)) ≤ z5.fst.length) <|
          .leaf (mkR fParsePolicy.rs (⟨true, cut z3.fst (1 : Nat) (z3.fst.length - (1 : Nat)), cut z4.fst (1 : Nat) (z4.fst.length - (1 : Nat)), cut z5.fst (1 : Nat) (z5.fst.length - (1 : Nat)), { data := #[] : ByteArray }⟩, true, ())) [] []))))) ?_
  refine br_i (fun h1 => Fct.leafZ (default, true, ()) (by repeat' first | exact rfl | exact trivial | refine And.intro ?_ ?_) ?_) (fun h1 => ob_i ?_ fun o2 => lt_i (br_i (fun h3 => Fct.leafZ (default, false, ()) (by repeat' first | exact rfl | exact trivial | refine And.intro ?_ ?_) ?_) (fun h3 => ob_i ?_ fun o4 => ob_i ?_ fun o5 => ob_i ?_ fun o6 => lt_i (ob_i ?_ fun o7 => ob_i ?_ fun o8 => ob_i ?_ fun o9 => ob_i ?_ fun o10 => lt_i (ob_i ?_ fun o11 => ob_i ?_ fun o12 => ob_i ?_ fun o13 => ob_i ?_ fun o14 => lt_i (ob_i ?_ fun o15 => br_i (fun h16 => ob_i ?_ fun o17 => ob_i ?_ fun o18 => br_i (fun h19 => ob_i ?_ fun o20 => ob_i ?_ fun o21 => ob_i ?_ fun o22 => ob_i ?_ fun o23 => ob_i ?_ fun o24 => ob_i ?_ fun o25 => ob_i ?_ fun o26 => lt_i (br_i (fun h27 => Fct.leafZ (default, false, ()) (by repeat' first | exact rfl | exact trivial | refine And.intro ?_ ?_) ?_) (fun h27 => ob_i ?_ fun o28 => ob_i ?_ fun o29 => ob_i ?_ fun o30 => Fct.leafY ?_))) (fun h19 => ob_i ?_ fun o31 => ob_i ?_ fun o32 => ob_i ?_ fun o33 => ob_i ?_ fun o34 => lt_i (br_i (fun h35 => Fct.leafZ (default, false, ()) (by repeat' first | exact rfl | exact trivial | refine And.intro ?_ ?_) ?_) (fun h35 => ob_i ?_ fun o36 => ob_i ?_ fun o37 => ob_i ?_ fun o38 => Fct.leafY ?_)))) (fun h16 => ob_i ?_ fun o39 => ob_i ?_ fun o40 => ob_i ?_ fun o41 => ob_i ?_ fun o42 => lt_i (br_i (fun h43 => Fct.leafZ (default, false, ()) (by repeat' first | exact rfl | exact trivial | refine And.intro ?_ ?_) ?_) (fun h43 => ob_i ?_ fun o44 => ob_i ?_ fun o45 => ob_i ?_ fun o46 => Fct.leafY ?_)))))))))
  all_goals
   try simp only [std0] at *
   try simp only [fFormatPolicy, fParsePolicy, fSplit5, std, Nat.reduceAdd, cut_end] at *
   try simp only [show UInt8.ofNat (Int.toNat 59) = 59 from rfl, show UInt8.ofNat (Int.toNat 32) = 32 from rfl] at *
  all_goals
   have g0 := spl_get 59 s 0
   have g1 := spl_get 59 s 1
   have g2 := spl_get 59 s 2
   have g3 := spl_get 59 s 3
   have k0 := spl_len 32 ((spl 59 s).getD 0 default)
   have k1 := spl_len 32 ((spl 59 s).getD 1 default)
   have k2 := spl_len 32 ((spl 59 s).getD 2 default)
  all_goals first | trivial | omega | (with_reducible refine Nat.le_trans (pol_sz (Nat.zero_le _)) ?_; omega) | (with_reducible refine Nat.le_trans (pol_sz ?_) ?_; (rw [ByteArray.size_extract]; omega); omega) | skip
  all_goals first | (simp only [parsePolicy]; rw [if_pos (by assumption)]; exact ⟨rfl, rfl⟩) | (simp only [parsePolicy]; rw [if_neg (by assumption), if_neg (by omega)]; exact ⟨rfl, rfl⟩) | (simp only [parsePolicy, polCand]; grind) | skip)
def E238 := E237.add 222 fParsePolicy
theorem E238ok : EOk Tryz.prog E238 := E237ok.add k222_237
def isResponse (x : SResponse) : Bool := inRange x.status 100 599 && (inRange x.kind 1 5 && (decide (x.body.size ≤ 400) && (inRange x.age 0 1000 && (parsePolicy x.policy).2)))
def fIsResponse : Fct := ⟨[.v (.el .response)], [.el .bool], fun (x_ : SResponse × Unit) => x_.1.policy.size ≤ 200000000, fun (x_ : SResponse × Unit) => (isResponse x_.1, ())⟩
theorem k163_238 : fIsResponse.ok Tryz.prog 163 := Fct.o [1,2,4] E238ok Tryz.func163 (by
  rintro ⟨(x : SResponse), _⟩ hp
  refine ho (.cl fParsePolicy (x.policy, ()) fun z2 => .cl fInRange (x.status, (100 : Int), (599 : Int), ()) fun z3 => .br (z3.1) (.cl fInRange (x.kind, (1 : Int), (5 : Int), ()) fun z4 => .br (z4.1) (.br (decide ((↑x.body.size : Int) ≤ 400)) (.cl fInRange (x.age, (0 : Int), (1000 : Int), ()) fun z5 => .br (z5.1) (.lf fIsResponse (z2.2.1, ())) (.lf fIsResponse (false, ()))) (.lf fIsResponse (false, ()))) (.lf fIsResponse (false, ()))) (.lf fIsResponse (false, ()))) ?_
  refine cl_i ?_ fun o1 => (cl_i trivial fun _ => (br_i (fun h2 => cl_i trivial fun _ => (br_i (fun h3 => br_i (fun h4 => cl_i trivial fun _ => (br_i (fun h5 => lfY ?_) (fun h5 => lfY ?_))) (fun h4 => lfY ?_)) (fun h3 => lfY ?_))) (fun h2 => lfY ?_)))
  all_goals
   try simp only [fInRange, fIsResponse, fParsePolicy, std, Nat.reduceAdd, isResponse, fParsePolicy, fInRange] at *
   try simp (disch := omega) only [wrapId', toNat1] at *
   try simp (disch := omega) only [if_pos, if_neg]
  all_goals first | trivial | omega | grind [wrapId', toNat1, drop_cons, drop_end, good_len, maxLen, isResponse, fParsePolicy, fInRange])
def E239 := E238.add 163 fIsResponse
theorem E239ok : EOk Tryz.prog E239 := E238ok.add k163_238
def entOk (all : List SEntry) : List SEntry → Int → Bool
  | [], _ => true
  | e :: l, i => isName e.top && (isName e.to.host && isName e.to.path) && isResponse e.response && decide (e.response.status = 200) && decide (fidx (fun x => decide (x.top = e.top) && decide (x.to = e.to)) all 0 = i) && entOk all l (i + 1)
theorem entOk_at {all l : List SEntry} {i : Nat} {k : Int} (h : i < l.length) : entOk all (l.drop i) k = (isName (l.getD i default).top && (isName (l.getD i default).to.host && isName (l.getD i default).to.path) && isResponse (l.getD i default).response && decide ((l.getD i default).response.status = 200) && decide (fidx (fun x => decide (x.top = (l.getD i default).top) && decide (x.to = (l.getD i default).to)) all 0 = k) && entOk all (l.drop (i + 1)) (k + 1)) := by rw [drop_cons h]; rfl
theorem entOk_end {all l : List SEntry} {i : Nat} {k : Int} (h : l.length ≤ i) : entOk all (l.drop i) k = true := by rw [List.drop_of_length_le h]; rfl
def isCache (c : SCache) : Bool := entOk c.entries c.entries 0 && decide (c.entries.length ≤ 100)
def fIsCache : Fct := ⟨[.v (.el .cache)], [.el .bool], fun (x_ : SCache × Unit) => szCache x_.1 ≤ 200000000, fun (x_ : SCache × Unit) => (isCache x_.1, ())⟩
theorem szEntry_get {l : List SEntry} {i : Nat} (h : i < l.length) : szEntry (l.getD i default) + l.length ≤ szL szEntry l := szL_get szEntry h
abbrev W_spec_IsCache_fIsCache_2 (c : SCache) : LInv := ⟨[⟨.s, 3, true, .el .int⟩, ⟨.b, 1, false, .el .cache⟩], fun (z_ : Int × SCache × Unit) (x_ : Int × SCache × Unit) => (0 ≤ x_.1 ∧ x_.1 ≤ c.entries.length ∧ entOk c.entries (c.entries.drop x_.1.toNat) x_.1 = entOk c.entries c.entries 0) ∧ x_.2.1 = z_.2.1, fun (x_ : Int × SCache × Unit) => c.entries.length - x_.1.toNat⟩
end Go.Proofs.YtccooffhmjgjfaaGreatDoor.fnExactGuessNext
