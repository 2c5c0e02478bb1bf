/-
  How the content of cells and their trees are told together.
-/
import Derived.Test.YtcgigcmleodjbaaVDf
namespace Go.D
set_option linter.unusedVariables false
section
variable {P : Program} {F : Fr P} {G : Gh} {σ : St} {a : Act} {w : World} {o : Oper} {K : St → Out} {Q : Post} {Qx : Exit → Act → World → Prop}
/-- what a cell holds, and the tree that goes with it -/
def litC (σ : St) : List Cell → Option (List FC × List Nat)
  | [] => some ([], [])
  | c :: cs => match litC σ cs with
    | some (ds, ab) => match c with
      | .nil => some (.nl :: ds, ab)
      | .ref l => match look σ.hp l with
        | some t => if ab.contains l then none else some (.l t.t t.xs :: ds, l :: ab)
        | none => none
      | c => match c.val? with
        | some v => some (.val v :: ds, ab)
        | none => none
    | none => none
def cellLab : Cell → Nat → Prop
  | .ref l, m => l = m
  | _, _ => False
theorem litC_ok (h : RG F G σ a w) : ∀ (cs : List Cell) (ds : List FC) (ab : List Nat), litC σ cs = some (ds, ab) → ds.length = cs.length ∧
    (∀ (j : Nat) (c : Cell) (u : Value), cs[j]? = some c → CellR w G c u → TO w (fcC (ds.getD j .nl)) u (fun b => ∃ m, cellLab c m ∧ G.ow b = .lab m)) ∧
    (∀ (j : Nat) (c : Cell) (m : Nat), cs[j]? = some c → cellLab c m → m ∈ ab) ∧
    (∀ (j j' : Nat) (c c' : Cell) (m : Nat), cs[j]? = some c → cs[j']? = some c' → cellLab c m → cellLab c' m → j = j') := by
  intro cs
  induction cs with
  | nil => intro ds ab hl; simp only [litC, Option.some.injEq, Prod.mk.injEq] at hl; obtain ⟨rfl, rfl⟩ := hl; simp
  | cons c cs ih =>
    intro ds ab hl
    simp only [litC] at hl
    split at hl
    · rename_i ds0 ab0 hl0
      obtain ⟨h1, h2, h3, h4⟩ := ih ds0 ab0 hl0
      have step : ∀ (d : FC) (ab1 : List Nat), ds = d :: ds0 → ab = ab1 → (∀ u, CellR w G c u → TO w (fcC d) u (fun b => ∃ m, cellLab c m ∧ G.ow b = .lab m)) → (∀ m, cellLab c m → m ∈ ab1) → (∀ m, m ∈ ab0 → m ∈ ab1) → (∀ m, cellLab c m → m ∉ ab0) →
          ds.length = (c :: cs).length ∧ (∀ (j : Nat) (c' : Cell) (u : Value), (c :: cs)[j]? = some c' → CellR w G c' u → TO w (fcC (ds.getD j .nl)) u (fun b => ∃ m, cellLab c' m ∧ G.ow b = .lab m)) ∧
          (∀ (j : Nat) (c' : Cell) (m : Nat), (c :: cs)[j]? = some c' → cellLab c' m → m ∈ ab) ∧
          (∀ (j j' : Nat) (c1 c2 : Cell) (m : Nat), (c :: cs)[j]? = some c1 → (c :: cs)[j']? = some c2 → cellLab c1 m → cellLab c2 m → j = j') := by
        intro d ab1 hd hab t1 t2 t3 t4
        subst hd
        subst hab
        refine ⟨by simp [h1], fun j c' u hj hu => ?_, fun j c' m hj hm => ?_, fun j j' c1 c2 m hj hj' hm hm' => ?_⟩
        · cases j with
          | zero => simp only [List.getElem?_cons_zero, Option.some.injEq] at hj; subst hj; simpa using t1 u hu
          | succ j => simpa using h2 j c' u (by simpa using hj) hu
        · cases j with
          | zero => simp only [List.getElem?_cons_zero, Option.some.injEq] at hj; subst hj; exact t2 m hm
          | succ j => exact t3 m (h3 j c' m (by simpa using hj) hm)
        · cases j with
          | zero =>
            simp only [List.getElem?_cons_zero, Option.some.injEq] at hj
            subst hj
            cases j' with
            | zero => rfl
            | succ j' => exact absurd (h3 j' c2 m (by simpa using hj') hm') (t4 m hm)
          | succ j =>
            cases j' with
            | zero =>
              simp only [List.getElem?_cons_zero, Option.some.injEq] at hj'
              subst hj'
              exact absurd (h3 j c1 m (by simpa using hj) hm) (t4 m hm')
            | succ j' => rw [h4 j j' c1 c2 m (by simpa using hj) (by simpa using hj') hm hm']
      split at hl
      · simp only [Option.some.injEq, Prod.mk.injEq] at hl
        exact step _ _ hl.1.symm hl.2.symm (fun u hu => hu) (by simp [cellLab]) (fun _ h => h) (by simp [cellLab])
      · rename_i l
        split at hl
        · rename_i t ht
          split at hl
          · simp at hl
          · rename_i hnl
            simp only [Option.some.injEq, Prod.mk.injEq] at hl
            refine step _ _ hl.1.symm hl.2.symm (fun u hu => ?_) (fun m hm => by simp only [cellLab] at hm; subst hm; simp) (fun m hm => by simp [hm]) (fun m hm => by simp only [cellLab] at hm; subst hm; simpa using hnl)
            rw [hu.1, fcC_tree]
            exact (h.hp l t ht).frame fun b hb _ => ⟨rfl, l, rfl, hb⟩
        · simp at hl
      · rename_i hn1 hn2
        split at hl
        · rename_i v hv
          simp only [Option.some.injEq, Prod.mk.injEq] at hl
          have hnl : ∀ m, ¬ cellLab c m := by
            intro m hm
            cases c <;> simp [cellLab] at hm
            exact hn2 _ rfl
          exact step _ _ hl.1.symm hl.2.symm (fun u hu => Cell.val_ok hu hv) (fun m hm => (hnl m hm).elim) (fun _ h => h) (fun m hm => (hnl m hm).elim)
        · simp at hl
    · simp at hl
theorem litC_flat : ∀ (cs : List Cell) (us : List Value), cellVals cs = some us → litC σ cs = some (us.map .val, []) := by
  intro cs
  induction cs with
  | nil => intro us h; simp only [cellVals, Option.some.injEq] at h; subst h; rfl
  | cons c cs ih =>
    intro us h
    simp only [cellVals] at h
    split at h
    · rename_i v vs hv hvs
      simp only [Option.some.injEq] at h
      subst h
      cases c <;> simp only [Cell.val?, Option.some.injEq, reduceCtorEq] at hv <;> subst hv <;> simp [litC, ih vs hvs, Cell.val?]
    · simp at h
end
end Go.D
