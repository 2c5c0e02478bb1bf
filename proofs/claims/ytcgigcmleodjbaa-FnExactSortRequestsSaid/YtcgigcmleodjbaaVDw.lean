/-
  Places: what a loop's head knows of its slots and boxes, by values of known types.
-/
import Derived.Test.YtcgigcmleodjbaaVDvb
namespace Go.D
set_option linter.unusedVariables false
/-- the shape of a place: a value of a type; a slice -/
inductive Sh where
  | el (t : Ty)
  | sl (t : Ty)
abbrev Sh.X : Sh → Type
  | .el t => El t
  | .sl t => List (El t)
def Sh.fc : (s : Sh) → s.X → List FC
  | .el t, x => enc t x
  | .sl t, xs => [.l t xs]
def Sh.dec : (s : Sh) → List FC → Option s.X
  | .el t, ds => D.dec t ds
  | .sl t, [c] => getL t c
  | .sl _, _ => none
def Ty.agg : Ty → Bool
  | .int => false
  | .str => false
  | .bool => false
  | .u8 => false
  | _ => true
def Sh.agg : Sh → Bool
  | .el t => t.agg
  | .sl _ => false
theorem Sh.dec_ok {s : Sh} {ds : List FC} {x : s.X} (h : s.dec ds = some x) : FcsLe ds (s.fc x) := by
  cases s with
  | el t => exact D.dec_ok t ds x h
  | sl t =>
    cases ds with
    | nil => simp [Sh.dec] at h
    | cons c ds =>
      cases ds with
      | nil => exact .cons (getL_ok h) .nil
      | cons d ds => simp [Sh.dec] at h
theorem Sh.agg_len (s : Sh) (x : s.X) (h : s.agg = false) : (s.fc x).length = 1 := by
  cases s with
  | sl t => rfl
  | el t => cases t <;> first | rfl | simp [Sh.agg, Ty.agg] at h
theorem width_le (t : Ty) : t.width ≤ 64 := by cases t <;> decide
theorem Sh.fc_len (s : Sh) (x : s.X) : (s.fc x).length ≤ 64 := by
  cases s with
  | el t => rw [Sh.fc, enc_len]; exact width_le t
  | sl t => simp [Sh.fc]
/-- a place: a slot, a box, or a tree under its own label; its own memory, or borrowed -/
inductive Pk where
  | s
  | b
  | t
structure Vr where
  k : Pk
  p : Nat
  own : Bool
  sh : Sh
abbrev Xs : List Vr → Type
  | [] => Unit
  | v :: vs => v.sh.X × Xs vs
def Vr.cells (v : Vr) (σ : St) : Option (List Cell) :=
  match v.k with
  | .b => look σ.bx v.p
  | .s => match look σ.tm v.p with
    | some (.v agg cs) => bif agg == v.sh.agg then some cs else none
    | _ => none
  | .t => none
def Sh.ofTree : (s : Sh) → Tree → Option s.X
  | .sl t, T => if h : T.t = t then some (h ▸ T.xs) else none
  | .el _, _ => none
def Sh.toTree : (s : Sh) → s.X → Tree
  | .sl t, xs => ⟨t, xs⟩
  | .el t, x => ⟨t, [x]⟩
theorem Sh.tree_ok {s : Sh} {T : Tree} {x : s.X} (h : s.ofTree T = some x) : s.toTree x = T := by
  cases s with
  | el t => simp [Sh.ofTree] at h
  | sl t =>
    obtain ⟨t', xs⟩ := T
    simp only [Sh.ofTree] at h
    split at h
    · rename_i e
      subst e
      simp only [Option.some.injEq] at h
      subst h
      rfl
    · cases h
def Vr.isT (v : Vr) : Bool := match v.k with
  | .t => true
  | _ => false
def Vr.grab (v : Vr) (σ : St) : Option (v.sh.X × List Nat) :=
  match v.isT with
  | true => match look σ.hp v.p with
    | some T => match v.sh.ofTree T with
      | some x => some (x, [])
      | none => none
    | none => none
  | false => match v.cells σ with
  | some cs => match v.own with
    | true => match litC σ cs with
      | some (ds, ab) => match v.sh.dec ds with
        | some x => some (x, ab)
        | none => none
      | none => none
    | false => match cellCons' cs with
      | some ds => match v.sh.dec ds with
        | some x => some (x, [])
        | none => none
      | none => none
  | none => none
def grabAll (σ : St) : (vs : List Vr) → Option (Xs vs × List Nat)
  | [] => some ((), [])
  | v :: vs => match v.grab σ, grabAll σ vs with
    | some (x, ab), some (xs, ab') => some ((x, xs), ab ++ ab')
    | _, _ => none
/-- the number under which a place's trees are known: no operation writes there -/
def Vr.q (v : Vr) : Nat := v.p + 1000000
def Vr.to (v : Vr) (x : v.sh.X) : List Cell := bif v.own then takeC (64 * v.q) (v.sh.fc x) else (v.sh.fc x).map (toCell none)
def Vr.set (v : Vr) (x : v.sh.X) (σ : St) : St :=
  let σ1 := { σ with hp := (bif v.own then takeH (64 * v.q) (v.sh.fc x) else []) ++ σ.hp }
  match v.k with
  | .b => { σ1 with bx := (v.p, v.to x) :: σ1.bx }
  | .s => { σ1 with tm := (v.p, .v v.sh.agg (v.to x)) :: σ1.tm }
  | .t => { σ with hp := (v.p, v.sh.toTree x) :: σ.hp }
def headSt (σ : St) : (vs : List Vr) → Xs vs → St
  | [], _ => σ
  | v :: vs, x => v.set x.1 (headSt σ vs x.2)
/-- memory is not looked at, but for the headers of the trees of hs -/
def Cell.memfree (hs : List Nat) : Cell → Bool
  | .sc _ => true
  | .tt => true
  | .ff => true
  | .nil => true
  | .im none _ _ => true
  | .ref l => hs.contains l
  | .sub l _ _ _ => hs.contains l
  | _ => false
def TV.memfree (hs : List Nat) : TV → Bool
  | .v _ cs => cs.all (·.memfree hs)
  | .ptr _ _ => true
  | .sptr none _ _ _ => true
  | .aptr _ _ => true
  | .clo _ _ => true
  | .cur => true
  | .dead => true
  | _ => false
def pOf : List Vr → List Nat
  | [] => []
  | v :: vs => bif v.isT then pOf vs else v.q :: pOf vs
def hOf : List Vr → List Nat
  | [] => []
  | v :: vs => bif v.isT then v.p :: hOf vs else hOf vs
def placesOk (σ : St) (vs : List Vr) (ab : List Nat) : Bool :=
  nodupB ab && nodupB (pOf vs) && noneIn σ.fl (fun m => (pOf vs).contains (m / 64)) && (hOf vs).all fun l => !(pOf vs).contains (l / 64) && !ab.contains l
section
variable {P : Program} {E : Env} {F : Fr P} {G G' : Gh} {σ σ' σb : St} {a a' : Act} {w w' : World} {o : Oper} {K : St → Out} {Q : Post} {Qx : Exit → Act → World → Prop}
theorem memfree_cell {hs : List Nat} {c : Cell} (h : c.memfree hs = true) : (∀ m, c.refs m = true → m ∈ hs) ∧ ∀ m, c.mems m = false := by
  cases c with
  | im s t xs => cases s with
    | none => exact ⟨fun m hm => by simp [Cell.refs] at hm, fun _ => rfl⟩
    | some l => simp [Cell.memfree] at h
  | ref l => exact ⟨fun m hm => by simp [Cell.refs] at hm; subst hm; simpa [Cell.memfree] using h, fun _ => rfl⟩
  | sub l k lo n => exact ⟨fun m hm => by simp [Cell.refs] at hm; subst hm; simpa [Cell.memfree] using h, fun _ => rfl⟩
  | dead => simp [Cell.memfree] at h
  | _ => exact ⟨fun m hm => by simp [Cell.refs] at hm, fun _ => rfl⟩
theorem memfree_tv {hs : List Nat} {x : TV} (h : x.memfree hs = true) : (∀ m, x.refs m = true → m ∈ hs) ∧ ∀ m, x.mems m = false := by
  cases x with
  | v agg cs =>
    refine ⟨fun m hm => ?_, fun m => ?_⟩
    · obtain ⟨c, hc, hr⟩ := List.any_eq_true.1 (show cs.any (·.refs m) = true from hm)
      exact (memfree_cell (List.all_eq_true.1 h c hc)).1 m hr
    · simp only [TV.mems, List.any_eq_false]
      intro c hc
      rw [(memfree_cell (List.all_eq_true.1 h c hc)).2 m]
      simp
  | inn l k i off t xs => simp [TV.memfree] at h
  | capd l c => simp [TV.memfree] at h
  | sptr s t x off => cases s with
    | none => exact ⟨fun m hm => by simp [TV.refs] at hm, fun _ => rfl⟩
    | some l => simp [TV.memfree] at h
  | tup ps => simp [TV.memfree] at h
  | eptr l k i off => simp [TV.memfree] at h
  | _ => exact ⟨fun m hm => by simp [TV.refs] at hm, fun _ => rfl⟩
/-- how a place's value is put together out of its cells -/
def Vr.At (v : Vr) (G : Gh) (a : Act) (w : World) (us : List Value) : Prop :=
  match v.k with
  | .t => True
  | .b => G.ow (G.be v.p) = .box v.p ∧ ∃ r e, w.heap[G.be v.p]? = some (.cells r e (0, 0)) ∧ r.toList = us
  | .s => ∀ (G' : Gh) (w' : World) (ds : List Cell), ds.length = us.length → (∀ (j : Nat) (c : Cell) (u : Value), ds[j]? = some c → us[j]? = some u → CellR w' G' c u) → TVR w' G' (.v v.sh.agg ds) (a.tmps.getD v.p undef)
theorem cells_at (h : RG F G σ a w) {v : Vr} {cs : List Cell} (hc : v.cells σ = some cs) : ∃ us : List Value, us.length = cs.length ∧ v.At G a w us ∧ ∀ (j : Nat) (c : Cell) (u : Value), cs[j]? = some c → us[j]? = some u → CellR w G c u := by
  obtain ⟨bx, p, own, sh⟩ := v
  unfold Vr.cells at hc
  cases bx with
  | t => cases hc
  | b =>
    dsimp only at hc
    obtain ⟨h1, r, e, h2, h3⟩ := h.bx p cs hc
    refine ⟨r.toList, by simpa using h3.1, ⟨h1, r, e, h2, rfl⟩, fun j c u hj hu => ?_⟩
    obtain ⟨u', hu', hr⟩ := h3.2 j c hj
    have : r.toList[j]? = some u' := by simpa using hu'
    rw [hu] at this
    injection this with this
    subst this
    exact hr
  | s =>
    dsimp only at hc
    split at hc
    · rename_i agg cs' hl
      cases ha : (agg == sh.agg) with
      | false => simp [ha] at hc
      | true =>
        simp only [ha, cond_true, Option.some.injEq] at hc
        subst hc
        have ha' : agg = sh.agg := by simpa using ha
        have hx := h.tm p _ hl
        cases agg with
        | false =>
          obtain ⟨c, rfl, hcr⟩ := hx
          refine ⟨[a.tmps.getD p undef], rfl, fun G' w' ds hl' hds => ?_, fun j c' u hj hu => ?_⟩
          · obtain ⟨d, rfl⟩ := List.length_eq_one_iff.1 hl'
            show TVR w' G' (.v sh.agg [d]) _
            rw [← ha']
            exact ⟨d, rfl, hds 0 d _ rfl rfl⟩
          · cases j with
            | zero => simp only [List.getElem?_cons_zero, Option.some.injEq] at hj hu; subst hj; subst hu; exact hcr
            | succ j => simp at hj
        | true =>
          obtain ⟨vs, hv, hs, hcr⟩ := hx
          refine ⟨vs.toList, by simpa using hs, fun G' w' ds hl' hds => ?_, fun j c u hj hu => ?_⟩
          · show TVR w' G' (.v sh.agg ds) (a.tmps.getD p undef)
            rw [← ha', hv]
            refine ⟨vs, rfl, by simpa using hl'.symm, fun j c hj => ?_⟩
            have hlt : j < vs.size := by
              have := (List.getElem?_eq_some_iff.1 hj).1
              simp only [Array.length_toList] at hl'
              omega
            exact ⟨vs[j], by simp [hlt], hds j c vs[j] hj (by simp [hlt])⟩
          · obtain ⟨u', hu', hr⟩ := hcr j c hj
            have : vs.toList[j]? = some u' := by simpa using hu'
            rw [hu] at this
            injection this with this
            subst this
            exact hr
    · cases hc
end
end Go.D
