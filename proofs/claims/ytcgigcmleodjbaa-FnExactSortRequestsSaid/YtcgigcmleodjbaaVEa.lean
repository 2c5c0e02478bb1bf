/-
  Contracts of functions that borrow: typed arguments, typed results.
-/
import Derived.Test.YtcgigcmleodjbaaVDz
namespace Go.D
set_option linter.unusedVariables false
abbrev Ts : List Sh → Type
  | [] => Unit
  | s :: ss => s.X × Ts ss
/-- what an argument is: a value; a pointer to borrowed cells; a closure with what it has captured; a cursor -/
inductive Ak where
  | v (s : Sh)
  | p (s : Sh)
  | c (g : Nat) (ss : List Sh)
  | u
abbrev Ak.X : Ak → Type
  | .v s => s.X
  | .p s => s.X
  | .c _ ss => Ts ss
  | .u => Unit
abbrev As : List Ak → Type
  | [] => Unit
  | s :: ss => s.X × As ss
abbrev aI : Ak := .v (.el .int)
abbrev aB : Ak := .v (.el .bool)
abbrev aT : Ak := .v (.el .str)
abbrev aE (t : Ty) : Ak := .v (.el t)
abbrev aL (t : Ty) : Ak := .v (.sl t)
abbrev rI : Sh := .el .int
abbrev rB : Sh := .el .bool
abbrev rT : Sh := .el .str
abbrev rE (t : Ty) : Sh := .el t
abbrev rL (t : Ty) : Sh := .sl t
def canonV (s : Sh) (x : s.X) : TV := .v s.agg ((s.fc x).map (toCell none))
def canonCaps : (ss : List Sh) → Ts ss → List Cap
  | [], _ => []
  | s :: ss, x => .aptr (s.fc x.1) :: canonCaps ss x.2
def canon : (k : Ak) → k.X → TV
  | .v s, x => canonV s x
  | .p s, x => .aptr (s.fc x) 0
  | .c g ss, x => .clo g (canonCaps ss x)
  | .u, _ => .cur
def canons : (ss : List Ak) → As ss → List TV
  | [], _ => []
  | s :: ss, x => canon s x.1 :: canons ss x.2
def decV (s : Sh) : TV → Option s.X
  | .v agg cs => bif agg == s.agg then (match cellCons' cs with
    | some ds => s.dec ds
    | none => none) else none
  | _ => none
def decCaps : (ss : List Sh) → List Cap → Option (Ts ss)
  | [], [] => some ()
  | s :: ss, .aptr ds :: cs => match s.dec ds, decCaps ss cs with
    | some y, some ys => some (y, ys)
    | _, _ => none
  | _, _ => none
def decTV : (k : Ak) → TV → Option k.X
  | .v s, x => decV s x
  | .p s, .aptr ds 0 => s.dec ds
  | .c g ss, .clo g' cs => bif g == g' then decCaps ss cs else none
  | .u, .cur => some ()
  | _, _ => none
def decTVs : (ss : List Ak) → List TV → Option (As ss)
  | [], [] => some ()
  | s :: ss, x :: xs => match decTV s x, decTVs ss xs with
    | some y, some ys => some (y, ys)
    | _, _ => none
  | _, _ => none
def mkParts : (rs : List Sh) → Ts rs → List (Bool × List FC)
  | [], _ => []
  | s :: ss, x => (s.agg, s.fc x.1) :: mkParts ss x.2
def mkR (rs : List Sh) (y : Ts rs) : Res := mkRes (mkParts rs y)
/-- a contract: types of arguments and results, what is asked, what is returned -/
structure Fct where
  as : List Ak
  rs : List Sh
  pre : As as → Prop
  fn : As as → Ts rs
def Fct.spec (S : Fct) : D.Spec := fun A => match A.bx, A.hp with
  | [], [] => match decTVs S.as A.tm with
    | some x => some (.df [S.pre x] (Ts S.rs) (S.fn x) fun y => ⟨mkR S.rs y, [], []⟩)
    | none => none
  | _, _ => none
def Fct.arg (S : Fct) (x : As S.as) : Arg := ⟨canons S.as x, [], []⟩
def Fct.ctr (S : Fct) (x : As S.as) : Ctr := .det [] ⟨mkR S.rs (S.fn x), [], []⟩
def Fct.ok (S : Fct) (P : Program) (f : Nat) : Prop := ∀ x, S.pre x → Con P f (S.arg x) (S.ctr x).sat
theorem decV_ok {w : World} {G : Gh} {s : Sh} {x : TV} {y : s.X} {v : Value} (h : decV s x = some y) (hx : TVR w G x v) : TVR w G (canonV s y) v := by
  unfold decV at h
  split at h
  · rename_i agg cs
    cases ha : (agg == s.agg) with
    | false => simp [ha] at h
    | true =>
      simp only [ha, cond_true] at h
      split at h
      · rename_i ds hd
        obtain ⟨l1, l2⟩ := cellCons'_ok (w := w) (G := G) cs ds hd
        obtain ⟨k1, k2⟩ := (Sh.dec_ok h).get
        have hlen : ((s.fc y).map (toCell none)).length = cs.length := by rw [List.length_map, ← k1, l1]
        have ha' : agg = s.agg := by simpa using ha
        unfold canonV
        rw [← ha']
        refine part_map (cs := cs) hlen (fun j d hj => ?_) hx
        rw [List.getElem?_map] at hj
        cases hq : (s.fc y)[j]? with
        | none => simp [hq] at hj
        | some fc =>
          simp only [hq, Option.map_some, Option.some.injEq] at hj
          subst hj
          have hlt : j < cs.length := by rw [← l1, k1]; exact (List.getElem?_eq_some_iff.1 hq).1
          refine ⟨_, List.getElem?_eq_getElem hlt, fun u hu => toCell_ok ?_⟩
          have ht := l2 j _ u (List.getElem?_eq_getElem hlt) hu
          have hle := (k2 j).le
          have hd' : (s.fc y).getD j .nl = fc := by simp [List.getD, hq]
          rw [hd'] at hle
          exact TR.le hle ht
      · cases h
  · cases h
theorem cons_dec {w : World} {G : Gh} {s : Sh} {ds : List FC} {y : s.X} {r : Array Value} (h : s.dec ds = some y) (hr : ConsR w G ds r) : ConsR w G (s.fc y) r := by
  obtain ⟨k1, k2⟩ := (Sh.dec_ok h).get
  intro j c hc
  have hlt : j < ds.length := by rw [k1]; exact (List.getElem?_eq_some_iff.1 hc).1
  obtain ⟨u, hu, ht⟩ := hr j _ (List.getElem?_eq_getElem hlt)
  have hle := (k2 j).le
  have hd' : (s.fc y).getD j .nl = c := by simp [List.getD, hc]
  have hd2 : ds.getD j .nl = ds[j] := by simp [List.getD, List.getElem?_eq_getElem hlt]
  rw [hd', hd2] at hle
  exact ⟨u, hu, TR.le hle ht⟩
theorem decCaps_ok {w : World} {G : Gh} : ∀ {ss : List Sh} {cs : List Cap} {y : Ts ss}, decCaps ss cs = some y → (canonCaps ss y).length = cs.length ∧ ∀ (j : Nat) (c : Cap), (canonCaps ss y)[j]? = some c → ∃ c', cs[j]? = some c' ∧ ∀ v, CapR w G c' v → CapR w G c v := by
  intro ss
  induction ss with
  | nil =>
    intro cs y h
    cases cs with
    | nil => simp [canonCaps]
    | cons c cs => cases c <;> simp [decCaps] at h
  | cons s ss ih =>
    intro cs y h
    cases cs with
    | nil => simp [decCaps] at h
    | cons c cs =>
      cases c with
      | ptr b => simp [decCaps] at h
      | aptr ds =>
        simp only [decCaps] at h
        split at h
        · rename_i y1 ys h1 h2
          simp only [Option.some.injEq] at h
          subst h
          obtain ⟨k1, k2⟩ := ih h2
          refine ⟨by simp [canonCaps, k1], fun j c hj => ?_⟩
          cases j with
          | zero =>
            simp only [canonCaps, List.getElem?_cons_zero, Option.some.injEq] at hj
            subst hj
            exact ⟨_, rfl, fun v ⟨g, r, e, fr, q1, q2, q3, q4⟩ => ⟨g, r, e, fr, q1, q2, q3, cons_dec h1 q4⟩⟩
          | succ j => simpa [canonCaps] using k2 j c (by simpa [canonCaps] using hj)
        · cases h
theorem decTV_ok {w : World} {G : Gh} {k : Ak} {x : TV} {y : k.X} {v : Value} (h : decTV k x = some y) (hx : TVR w G x v) : TVR w G (canon k y) v := by
  cases k with
  | v s => exact decV_ok h hx
  | p s =>
    cases x <;> first | (simp [decTV] at h; done) | skip
    rename_i ds off
    cases off with
    | succ n => simp [decTV] at h
    | zero =>
      obtain ⟨g, r, e, fr, q1, q2, q3, q4⟩ := hx
      exact ⟨g, r, e, fr, q1, q2, q3, cons_dec h q4⟩
  | c g ss =>
    cases x <;> first | (simp [decTV] at h; done) | skip
    rename_i g' cs
    simp only [decTV] at h
    cases hg : (g == g') with
    | false => simp [hg] at h
    | true =>
      simp only [hg, cond_true] at h
      have hg' : g = g' := by simpa using hg
      subst hg'
      obtain ⟨k1, k2⟩ := decCaps_ok (w := w) (G := G) h
      obtain ⟨vs, rfl, hs, hc⟩ := hx
      refine ⟨vs, rfl, by rw [hs, k1], fun j c hj => ?_⟩
      obtain ⟨c', hc', hr⟩ := k2 j c hj
      obtain ⟨u, hu, hcr⟩ := hc j c' hc'
      exact ⟨u, hu, hr u hcr⟩
  | u =>
    cases x <;> first | (simp [decTV] at h; done) | skip
    exact hx
theorem decTVs_ok {w : World} {G : Gh} : ∀ {ss : List Ak} {xs : List TV} {ys : As ss}, decTVs ss xs = some ys → (canons ss ys).length = xs.length ∧ ∀ (j : Nat) (y : TV), (canons ss ys)[j]? = some y → ∃ x, xs[j]? = some x ∧ ∀ v, TVR w G x v → TVR w G y v := by
  intro ss
  induction ss with
  | nil =>
    intro xs ys h
    cases xs with
    | nil => simp [canons]
    | cons x xs => simp [decTVs] at h
  | cons s ss ih =>
    intro xs ys h
    cases xs with
    | nil => simp [decTVs] at h
    | cons x xs =>
      simp only [decTVs] at h
      split at h
      · rename_i y ys' h1 h2
        simp only [Option.some.injEq] at h
        subst h
        obtain ⟨k1, k2⟩ := ih h2
        refine ⟨by simp [canons, k1], fun j y' hj => ?_⟩
        cases j with
        | zero => simp only [canons, List.getElem?_cons_zero, Option.some.injEq] at hj; subst hj; exact ⟨x, rfl, fun v hv => decTV_ok h1 hv⟩
        | succ j => simpa [canons] using k2 j y' (by simpa [canons] using hj)
      · cases h
theorem Fct.spec_ok {S : Fct} {P : Program} {f : Nat} (h : S.ok P f) : SpecOk P f S.spec := by
  intro A c hc hp
  unfold Fct.spec at hc
  split at hc
  · rename_i hb hh
    split at hc
    · rename_i x hx
      simp only [Option.some.injEq] at hc
      subst hc
      have hpre : S.pre x := hp _ (List.mem_singleton_self _)
      intro w vs G hB hA
      refine (h x hpre w vs G hB ⟨?_, ?_, by simp [Fct.arg, look], by simp [Fct.arg, look], hA.lt, hA.cr⟩).mono ?_
      · rw [hA.sz]; exact (decTVs_ok (w := w) (G := G) hx).1.symm
      · intro j y hj
        obtain ⟨x', hx', hr⟩ := (decTVs_ok (w := w) (G := G) hx).2 j y hj
        obtain ⟨v, hv, ht⟩ := hA.tm j x' hx'
        exact ⟨v, hv, hr v ht⟩
      · rintro e w' ⟨v, p, hs, hrest⟩
        exact ⟨v, p, hs, hrest⟩
    · cases hc
  · cases hc
abbrev vi (n : Int) : FC := .val (.int .i64 n)
abbrev vb (b : Bool) : FC := .val (.bool b)
abbrev vs (s : ByteArray) : FC := .val (.string s)
/-- a table of contracts -/
def orSpec (g : D.Spec) : Option (List Md × D.Spec) → D.Spec
  | some ([], g0) => fun A => match g A with
    | some c => some c
    | none => g0 A
  | _ => g
def Env.add (E : Env) (f : Nat) (S : Fct) : Env := E.ext f [] (orSpec S.spec (E.fn f))
theorem EOk.add {P : Program} {E : Env} (h : EOk P E) {f : Nat} {S : Fct} (hS : S.ok P f) : EOk P (E.add f S) := by
  refine h.ext ?_ (fun hn => by cases hn)
  have hS' := Fct.spec_ok hS
  refine (?_ : SpecOk P f _)
  unfold orSpec
  split
  · rename_i g0 hg0
    intro A c hc
    dsimp only at hc
    split at hc
    · rename_i c' hc'
      simp only [Option.some.injEq] at hc
      subst hc
      exact hS' A c' hc'
    · exact (h f [] g0 hg0).1 A c hc
  · exact hS'
/-- 'holds', shut: so that nobody runs the evaluator by the way -/
structure HoldsE (e : Out) (Q : Post) : Prop where
  h : e.holds Q
theorem holds_of {e X : Out} {Q : Post} (h : e = X) (hX : X.holds Q) : HoldsE e Q := ⟨h ▸ hX⟩
/-- the contract of a function out of its run -/
theorem Fct.of {S : Fct} {P : Program} {E : Env} {L : As S.as → LEnv} {kp : List Nat} {f : Nat} {fn : Func} (hE : EOk P E) (hf : P.funcs[f]? = some fn) (hb : fn.body.isSome = true) (hn : decide (S.as.length ≤ fn.ntmps) = true)
    (hh : ∀ x, S.pre x → HoldsE (fnOut P E (L x) kp [] fn (S.arg x)) (S.ctr x).post) : S.ok P f := by
  intro x hx
  refine con_run hE hf hb ?_ (hh x hx).h
  have hl : ∀ (ss : List Ak) (x : As ss), (canons ss x).length = ss.length := by
    intro ss
    induction ss with
    | nil => intro _; rfl
    | cons s ss ih => intro x; simp [canons, ih]
  have : (S.arg x).tm.length = S.as.length := hl _ _
  rw [this]
  exact hn
theorem fcSame_refl (c : FC) : fcSame c c := by
  cases c with
  | val u => rfl
  | nl => trivial
  | l t xs => simp [fcSame]
theorem fcsSame_refl : ∀ cs : List FC, fcsSame cs cs
  | [] => trivial
  | c :: cs => ⟨fcSame_refl c, fcsSame_refl cs⟩
theorem psSame_refl : ∀ ps : List (Bool × List FC), psSame ps ps
  | [] => trivial
  | p :: ps => ⟨⟨rfl, fcsSame_refl _⟩, psSame_refl ps⟩
theorem resSame_refl : ∀ r : Res, resSame r r
  | .one _ cs => ⟨rfl, fcsSame_refl cs⟩
  | .tup ps => psSame_refl ps
theorem Fct.leafY {S : Fct} {x : As S.as} {y : Ts S.rs} (h : y = S.fn x) : (Out.leaf (mkR S.rs y) [] []).holds (S.ctr x).post := by
  subst h
  exact ⟨resSame_refl _, trivial, rfl⟩
theorem Fct.leafR {S : Fct} {x : As S.as} {r : Res} (h : resSame r (mkR S.rs (S.fn x))) : (Out.leaf r [] []).holds (S.ctr x).post := ⟨h, trivial, rfl⟩
theorem Fct.leafZ {S : Fct} {x : As S.as} {r : Res} (y : Ts S.rs) (h1 : resSame r (mkR S.rs y)) (h : y = S.fn x) : (Out.leaf r [] []).holds (S.ctr x).post := Fct.leafR (h ▸ h1)
theorem ob_i {Q : Post} {p : Prop} {x : Out} (hp : p) (hx : p → x.holds Q) : (Out.ob p x).holds Q := ⟨hp, hx hp⟩
theorem ob_d {Q : Post} {p : Prop} {x : Out} (hp : p) (hx : x.holds Q) : (Out.ob p x).holds Q := ⟨hp, hx⟩
theorem br_i {Q : Post} {b : Bool} {x y : Out} (hx : b = true → x.holds Q) (hy : b = false → y.holds Q) : (Out.br b x y).holds Q := ⟨hx, hy⟩
theorem lp_i {Q : Post} {X : Type} {p : Prop} {inv : X → Prop} {x : X → Out} (hp : p) (hx : ∀ y, inv y → (x y).holds Q) : (Out.lp X p inv x).holds Q := ⟨hp, hx⟩
theorem lt_i {Q : Post} {X : Type} {e : X} {x : X → Out} (hx : (x e).holds Q) : (Out.lt X e x).holds Q := hx
theorem lt_e {Q : Post} {X : Type} {e : X} {x : X → Out} (hx : ∀ y, y = e → (x y).holds Q) : (Out.lt X e x).holds Q := hx e rfl
theorem lpx_i {Q : Post} {li : LInv} {x0 : Xs li.ps} {f : Xs li.ps → (Xs li.ps → Prop) → Out} (hp : li.inv x0 x0) (hx : ∀ y, li.inv x0 y → (f y fun x' => li.inv x0 x' ∧ li.m x' < li.m y).holds Q) : (lpx li x0 f).holds Q := ⟨hp, hx⟩
end Go.D
