/-
  The program's ActionName returns what the reference's returns, for every number: the law returns true. No condition.
-/
import Derived.Test.YtedcmphhpfdblaaFa
import Derived.Test.YtedcmphhpfdblaaDq
import Derived.Test.YtedcmphhpfdblaaRows
import Derived.WalkKit
import Derived.ProofKit
import Derived.OpenShut
namespace Go.Proofs.Ytedcmphhpfdblaa.fnExactActionName
open Go.D Go.ChangeShapes Go.WideShapes Go.ChangeAt Go.RowKit
set_option linter.unusedVariables false
set_option maxRecDepth 100000
theorem law (n : Int) : Con Try.prog 4 [.v false [.sc (.int .i64 n)]] (.one false [.val (.bool true)]) :=
  con_of (E := E2) (L := fun _ => none) (kp := [0, 2, 3, 4, 11]) (fn := Try.f4)
    (X := .ob ((True ∧ True) ∧ True) (.ob True (.ob ((True ∧ True) ∧ True) (.ob True (.br (!((actionName n).toList == (actionName n).toList)) (.leaf (.one false [.val (.bool false)]) [] []) (.leaf (.one false [.val (.bool true)]) [] []))))))
    E2ok Try.func4 (by kernel_rfl) (by kernel_rfl) (by kernel_rfl) ⟨by simp, trivial, by simp, trivial, fun h => by simp at h, fun _ => leR_val rfl⟩
theorem own : ownKnob Try.prog.godebug = none := by kernel_rfl
theorem lifted (os : Os) (started : os.Started) (H : Type) (enc : TypeId × Value → H) :
    ReturnsInHanded {} Try.checked os 4 .any (Rows.fnExactActionNameSpec.pre6 enc Try.prog Try.f4 Rows.fnExactActionNameRow.domain false) (Rows.fnExactActionNameSpec.post enc Try.prog Try.f4 false true false false) := by
  refine returnsInHanded_of_change (C := Try.checked) own started (by kernel_rfl) Try.func4
    (ChangeSpec.witness6 (enc := enc) (C := Try.checked) false ⟨#[], #[.int .i64 0], []⟩ 8 (by kernel_rfl) (by kernel_rfl) (by kernel_rfl) (by kernel_rfl)) ?_
  intro W base args ds gs before hval0 hW hcnd _
  have hval : ∀ (j : Nat) t v, Try.f4.params[j]? = some t → args[j]? = some v → Value.okWide Try.prog W .any base t v := hval0
  have hW' := hW
  obtain ⟨p, q, hA0, hV, rfl, hfz, hnd⟩ := hW
  have hA : DataW.TrodAll enc Try.prog W 0 (fun _ => true) true Try.f4.params.toList args.toList ds p := hA0
  rw [Try.params4] at hA hval
  obtain ⟨v0, vs0, d0, ds0, p0, q0, hargs, rfl, rfl, h0, r0⟩ := trodAll_cons hA
  obtain ⟨rfl, rfl, rfl⟩ := trodAll_nil r0
  obtain rfl : args = #[v0] := by cases args; simp_all
  obtain ⟨a0, rfl, rfl, rfl, w0⟩ := open_int Try.underlying3 (hval 0 3 v0 rfl rfl) h0
  refine law_calls (xs := [.v false [.sc (.int .i64 a0)]]) (by kernel_rfl) (fun t ht => ?_) rfl Try.underlying4 rfl hW'
    (fun xs h => ?_) (law a0) ⟨rfl, fun j x hx => ?_⟩
  · rw [Try.params4] at ht
    obtain rfl : t = 3 := by simpa using ht
    exact ⟨by kernel_rfl, of_decide_eq_true (by kernel_rfl)⟩
  · rw [Try.params4] at h
    obtain ⟨x, rfl⟩ := List.length_eq_one_iff.1 (show xs.length = 1 from h)
    rfl
  · cases j with
    | zero => simp only [List.getElem?_cons_zero, Option.some.injEq] at hx; subst hx; exact ⟨_, rfl, _, rfl, rfl, rfl⟩
    | succ j => simp at hx
theorem over : Rows.fnExactActionNameRow.holds Try.pinned (OpenSpec.ofChange Rows.fnExactActionNameSpec) :=
  OpenClaim.holds_of_wide 4 Try.f4 rfl rfl rfl rfl rfl rfl rfl ⟨rfl, rfl, rfl, rfl, rfl⟩ rfl rfl rfl rfl rfl (by kernel_rfl) Try.func4 (by kernel_rfl)
    (of_decide_eq_true (by kernel_rfl)) (by unfold Func.isWrapper; first | (rw [if_pos (by decide +kernel)]; kernel_rfl) | (rw [if_neg (by decide +kernel)]; exact ⟨rfl, rfl⟩))
    (fun os started H enc _ => lifted os started H enc)
theorem proved : Rows.FnExactActionNameSaid := over
end Go.Proofs.Ytedcmphhpfdblaa.fnExactActionName
