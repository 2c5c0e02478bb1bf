/-
  The program's WasteBudget returns what the reference's returns: the law returns true. No condition.
-/
import Derived.Test.YtedcmphhpfdblaaFa
import Derived.Test.YtedcmphhpfdblaaDq
import Derived.Test.YtedcmphhpfdblaaRows
import Derived.WalkKit
import Derived.ProofKit
import Derived.OpenShut
namespace Go.Proofs.Ytedcmphhpfdblaa.fnExactWasteBudget
open Go.D Go.ChangeShapes Go.WideShapes Go.ChangeAt Go.RowKit
set_option linter.unusedVariables false
set_option maxRecDepth 100000
def S15 : D.Spec := fun
  | [] => some (True, .one false [.val (.int .i64 2520)])
  | _ => none
theorem s15 : SpecOk Try.prog 15 S15 := by
  intro args p r h hp
  unfold S15 at h
  split at h
  · simp only [Option.some.injEq, Prod.mk.injEq] at h
    obtain ⟨rfl, rfl⟩ := h
    exact con_of (E := D.Env.empty) (L := fun _ => none) (kp := [0]) (fn := Try.f15) (X := .leaf (.one false [.val (.int .i64 2520)]) [] []) (EOk.empty _) Try.func15 (by kernel_rfl) (by kernel_rfl) (by kernel_rfl) (leR_val rfl)
  · simp at h
theorem s16 : SpecOk Try.prog 16 S15 := by
  intro args p r h hp
  unfold S15 at h
  split at h
  · simp only [Option.some.injEq, Prod.mk.injEq] at h
    obtain ⟨rfl, rfl⟩ := h
    exact con_of (E := D.Env.empty) (L := fun _ => none) (kp := [0]) (fn := Try.f16) (X := .leaf (.one false [.val (.int .i64 2520)]) [] []) (EOk.empty _) Try.func16 (by kernel_rfl) (by kernel_rfl) (by kernel_rfl) (leR_val rfl)
  · simp at h
theorem law : Con Try.prog 3 [] (.one false [.val (.bool true)]) :=
  con_of (E := (D.Env.empty.ext 15 S15).ext 16 S15) (L := fun _ => none) (kp := [0, 1, 2, 7]) (fn := Try.f3)
    (X := .ob True (.ob True (.ob True (.ob True (.br (((2520 : Int) != 2520)) (.leaf (.one false [.val (.bool false)]) [] []) (.leaf (.one false [.val (.bool true)]) [] []))))))
    (((EOk.empty _).ext s15).ext s16) Try.func3 (by kernel_rfl) (by kernel_rfl) (by kernel_rfl) ⟨trivial, trivial, trivial, trivial, fun h => by simp at h, fun _ => leR_val rfl⟩
theorem own : ownKnob Try.prog.godebug = none := by kernel_rfl
theorem lifted (os : Os) (started : os.Started) (H : Type) (enc : TypeId × Value → H) :
    ReturnsInHanded {} Try.checked os 3 .any (Rows.fnExactWasteBudgetSpec.pre6 enc Try.prog Try.f3 Rows.fnExactWasteBudgetRow.domain false) (Rows.fnExactWasteBudgetSpec.post enc Try.prog Try.f3 false true false false) := by
  refine returnsInHanded_of_change (C := Try.checked) own started (by kernel_rfl) Try.func3
    (ChangeSpec.witness6 (enc := enc) (C := Try.checked) false ⟨#[], #[], []⟩ 8 (by kernel_rfl) (by kernel_rfl) (by kernel_rfl) (by kernel_rfl)) ?_
  intro W base args ds gs before hval hW hcnd _
  have hW' := hW
  obtain ⟨p, q, hA0, hV, rfl, hfz, hnd⟩ := hW
  have hA : DataW.TrodAll enc Try.prog W 0 (fun _ => true) true Try.f3.params.toList args.toList ds p := hA0
  rw [Try.params3] at hA
  obtain ⟨hargs, _, _⟩ := trodAll_nil hA
  obtain rfl : args = #[] := by cases args; simp_all
  exact law_calls (xs := []) (by kernel_rfl) (fun t ht => by rw [Try.params3] at ht; simp at ht) rfl Try.underlying4 rfl hW'
    (fun xs h => by rw [Try.params3] at h; obtain rfl : xs = [] := List.eq_nil_of_length_eq_zero (by simpa using h); rfl) law ⟨rfl, by simp⟩
theorem over : Rows.fnExactWasteBudgetRow.holds Try.pinned (OpenSpec.ofChange Rows.fnExactWasteBudgetSpec) :=
  OpenClaim.holds_of_wide 3 Try.f3 rfl rfl rfl rfl rfl rfl rfl ⟨rfl, rfl, rfl, rfl, rfl⟩ rfl rfl rfl rfl rfl (by kernel_rfl) Try.func3 (by kernel_rfl)
    (of_decide_eq_true (by kernel_rfl)) (by unfold Func.isWrapper; first | (rw [if_pos (by decide +kernel)]; kernel_rfl) | (rw [if_neg (by decide +kernel)]; exact ⟨rfl, rfl⟩))
    (fun os started H enc _ => lifted os started H enc)
theorem proved : Rows.FnExactWasteBudgetSaid := over
end Go.Proofs.Ytedcmphhpfdblaa.fnExactWasteBudget
