/-
  Contracts of functions that move a cursor: what they return is one of many.
-/
import Derived.Test.YtcgigcmleodjbaaVEe
namespace Go.D
set_option linter.unusedVariables false
def Ak.md : Ak → Md
  | .u => .cur
  | _ => .lend
/-- types of arguments and results, what is asked, what holds of the results -/
structure Xct where
  as : List Ak
  rs : List Sh
  pre : As as → Prop
  is : As as → Ts rs → Prop
def Xct.ms (S : Xct) : List Md := S.as.map (·.md)
def Xct.arg (S : Xct) (x : As S.as) : Arg := ⟨canons S.as x, [], []⟩
def Xct.ctr (S : Xct) (x : As S.as) : Ctr := .ex [] (Ts S.rs) (S.is x) fun y => ⟨mkR S.rs y, [], []⟩
def Xct.spec (S : Xct) : D.Spec := fun A => match A.bx, A.hp with
  | [], [] => match decTVs S.as A.tm with
    | some x => some (.ex [S.pre x] (Ts S.rs) (S.is x) fun y => ⟨mkR S.rs y, [], []⟩)
    | none => none
  | _, _ => none
def Xct.ok (S : Xct) (P : Program) (f : Nat) : Prop := ∀ x, S.pre x → Con P f (S.arg x) (S.ctr x).sat
theorem Xct.spec_ok {S : Xct} {P : Program} {f : Nat} (h : S.ok P f) : SpecOk P f S.spec := by
  intro A c hc hp
  unfold Xct.spec at hc
  split at hc
  · rename_i hb hh
    split at hc
    · rename_i x hx
      simp only [Option.some.injEq] at hc
      subst hc
      have hpre : S.pre x := hp _ (List.mem_singleton_self _)
      intro w vs G hB hA
      refine (h x hpre w vs G hB ⟨?_, ?_, by simp [Xct.arg, look], by simp [Xct.arg, look], hA.lt, hA.cr⟩).mono ?_
      · rw [hA.sz]; exact (decTVs_ok (w := w) (G := G) hx).1.symm
      · intro j y hj
        obtain ⟨x', hx', hr⟩ := (decTVs_ok (w := w) (G := G) hx).2 j y hj
        obtain ⟨v, hv, ht⟩ := hA.tm j x' hx'
        exact ⟨v, hv, hr v ht⟩
      · rintro e w' ⟨v, p, hs, hrest⟩
        exact ⟨v, p, hs, hrest⟩
    · cases hc
  · cases hc
theorem xms_new : ∀ ks : List Ak, isNewMd (ks.map (·.md)) = false
  | [] => rfl
  | [k] => by cases k <;> rfl
  | k :: _ :: _ => by cases k <;> rfl
def Env.addX (E : Env) (f : Nat) (S : Xct) : Env := E.ext f S.ms S.spec
theorem EOk.addX {P : Program} {E : Env} (h : EOk P E) {f : Nat} {S : Xct} (hS : S.ok P f) : EOk P (E.addX f S) :=
  h.ext (Xct.spec_ok hS) fun hn => by rw [Xct.ms, xms_new] at hn; cases hn
theorem Xct.of {S : Xct} {P : Program} {E : Env} {L : As S.as → LEnv} {kp : List Nat} {f : Nat} {fn : Func} (hE : EOk P E) (hf : P.funcs[f]? = some fn) (hb : fn.body.isSome = true) (hn : decide (S.as.length ≤ fn.ntmps) = true)
    (hh : ∀ x, S.pre x → HoldsE (fnOut P E (L x) kp [] fn (S.arg x)) (S.ctr x).post) : S.ok P f := by
  intro x hx
  refine con_run hE hf hb ?_ (hh x hx).h
  have : (S.arg x).tm.length = S.as.length := canons_len _ _
  rw [this]
  exact hn
theorem Xct.leafY {S : Xct} {x : As S.as} (y : Ts S.rs) (h : S.is x y) : (Out.leaf (mkR S.rs y) [] []).holds (S.ctr x).post := ⟨y, h, resSame_refl _, trivial, rfl⟩
theorem Xct.leafZ {S : Xct} {x : As S.as} {r : Res} (y : Ts S.rs) (h1 : resSame r (mkR S.rs y)) (h : S.is x y) : (Out.leaf r [] []).holds (S.ctr x).post := ⟨y, h, h1, trivial, rfl⟩
end Go.D
