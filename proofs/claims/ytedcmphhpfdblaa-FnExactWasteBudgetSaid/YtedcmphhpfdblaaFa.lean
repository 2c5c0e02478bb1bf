/-
  Contracts of this seat's first functions: number ranges, names of actions, the budget.
-/
import Derived.Test.YtedcmphhpfdblaaDq
import Derived.Test.YtedcmphhpfdblaaProg
namespace Go.Proofs.Ytedcmphhpfdblaa
open Go.D
set_option maxRecDepth 100000
def S68 : D.Spec := fun
  | [.v false [.sc (.int .i64 n)], .v false [.sc (.int .i64 lo)], .v false [.sc (.int .i64 hi)]] => some (True, .one false [.val (.bool (decide (lo ≤ n) && decide (n ≤ hi)))])
  | _ => none
theorem s68 : SpecOk Try.prog 68 S68 := by
  intro args p r h hp
  unfold S68 at h
  split at h
  · rename_i n lo hi
    simp only [Option.some.injEq, Prod.mk.injEq] at h
    obtain ⟨rfl, rfl⟩ := h
    refine con_of (E := D.Env.empty) (L := fun _ => none) (kp := [0,1,2,6]) (fn := Try.f68) (EOk.empty _) Try.func68 (by kernel_rfl) (by kernel_rfl)
      (X := .br (decide (n ≥ lo)) (.leaf (.one false [.val (.bool (decide (n ≤ hi)))]) [] []) (.leaf (.one false [.val (.bool false)]) [] [])) (by kernel_rfl) ?_
    exact ⟨fun h => leR_val (by simp_all), fun h => leR_val (by simp_all; omega)⟩
  · simp at h
theorem s69 : SpecOk Try.prog 69 S68 := by
  intro args p r h hp
  unfold S68 at h
  split at h
  · rename_i n lo hi
    simp only [Option.some.injEq, Prod.mk.injEq] at h
    obtain ⟨rfl, rfl⟩ := h
    refine con_of (E := D.Env.empty) (L := fun _ => none) (kp := [0,1,2,6]) (fn := Try.f69) (EOk.empty _) Try.func69 (by kernel_rfl) (by kernel_rfl)
      (X := .br (decide (lo ≤ n)) (.leaf (.one false [.val (.bool (decide (n ≤ hi)))]) [] []) (.leaf (.one false [.val (.bool false)]) [] [])) (by kernel_rfl) ?_
    exact ⟨fun h => leR_val (by simp_all), fun h => leR_val (by simp_all; omega)⟩
  · simp at h
def E1 : D.Env := (D.Env.empty.ext 68 S68).ext 69 S68
theorem E1ok : EOk Try.prog E1 := ((EOk.empty _).ext s68).ext s69
def words : List Value := [.string ⟨#[112, 97, 114, 116]⟩, .string ⟨#[114, 101, 113, 117, 101, 115, 116]⟩, .string ⟨#[103, 117, 101, 115, 115]⟩, .string ⟨#[115, 108, 111, 119]⟩, .string ⟨#[102, 97, 115, 116]⟩]
def actionName (n : Int) : ByteArray := if 0 ≤ n ∧ n ≤ 4 then (match words.getD n.toNat undef with | .string s => s | _ => ⟨#[]⟩) else ⟨#[]⟩
def S17 : D.Spec := fun
  | [.v false [.sc (.int .i64 n)]] => some (True, .one false [.val (.string (actionName n))])
  | _ => none
theorem words_at (n : Int) (h0 : 0 ≤ n) (h4 : n ≤ 4) : words.getD (n.toNat * 1 + 0) undef = .string (actionName n) := by
  have : n = 0 ∨ n = 1 ∨ n = 2 ∨ n = 3 ∨ n = 4 := by omega
  rcases this with rfl | rfl | rfl | rfl | rfl <;> rfl
def X17 (n : Int) : Out := .ob ((True ∧ True) ∧ (True ∧ True) ∧ (True ∧ True) ∧ True) (.ob True (.br (!(decide (0 ≤ n) && decide (n ≤ 4))) (.leaf (.one false [.val (.string ⟨#[]⟩)]) [] [])
  (.ob (0 ≤ n ∧ n < ((5 : Nat) : Int)) (.ob (n.toNat < 5) (.leaf (.one false [.val (words.getD (n.toNat * 1 + 0) undef)]) [] [])))))
theorem X17_ok (n : Int) : (X17 n).holds (fun r' _ _ => leR r' (.one false [.val (.string (actionName n))])) := by
  refine ⟨by simp, trivial, fun h => leR_val ?_, fun h => ?_⟩
  · have : ¬ (0 ≤ n ∧ n ≤ 4) := by simp at h; omega
    simp [actionName, this]
  · have h2 : 0 ≤ n ∧ n ≤ 4 := by simpa using h
    exact ⟨by omega, by omega, leR_val (words_at n h2.1 h2.2)⟩
theorem s17 : SpecOk Try.prog 17 S17 := by
  intro args p r h hp
  unfold S17 at h
  split at h
  · rename_i n
    simp only [Option.some.injEq, Prod.mk.injEq] at h
    obtain ⟨rfl, rfl⟩ := h
    exact con_of (E := E1) (L := fun _ => none) (kp := [0,2,5]) (fn := Try.f17) (X := X17 n) E1ok Try.func17 (by kernel_rfl) (by kernel_rfl) (by kernel_rfl) (X17_ok n)
  · simp at h
theorem s18 : SpecOk Try.prog 18 S17 := by
  intro args p r h hp
  unfold S17 at h
  split at h
  · rename_i n
    simp only [Option.some.injEq, Prod.mk.injEq] at h
    obtain ⟨rfl, rfl⟩ := h
    exact con_of (E := E1) (L := fun _ => none) (kp := [0,2,5]) (fn := Try.f18) (X := X17 n) E1ok Try.func18 (by kernel_rfl) (by kernel_rfl) (by kernel_rfl) (X17_ok n)
  · simp at h
def E2 : D.Env := (E1.ext 17 S17).ext 18 S17
theorem E2ok : EOk Try.prog E2 := (E1ok.ext s17).ext s18
end Go.Proofs.Ytedcmphhpfdblaa
