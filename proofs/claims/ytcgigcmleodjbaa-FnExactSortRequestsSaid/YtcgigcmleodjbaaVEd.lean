/-
  Contracts of functions that write the first argument's memory in place ('mark').
-/
import Derived.Test.YtcgigcmleodjbaaVEc
namespace Go.D
set_option linter.unusedVariables false
structure MS where
  s : Sh
  pre : s.X → Int → Prop
  fn : s.X → Int → s.X × Int
def MS.arg (S : MS) (x : S.s.X) (k : Int) : Arg := ⟨[.v S.s.agg (takeC 0 (S.s.fc x)), .v false [.sc (.int .i64 k)]], [], takeH 0 (S.s.fc x)⟩
def MS.pst (S : MS) (x : S.s.X) (k : Int) : Pst := ⟨.one false [vi k], takeH 0 (S.s.fc x), []⟩
def MS.ctr (S : MS) (x : S.s.X) (k : Int) : Ctr := .det [] (S.pst (S.fn x k).1 (S.fn x k).2)
def MS.ok (S : MS) (P : Program) (f : Nat) : Prop := ∀ x k, S.pre x k → Con P f (S.arg x k) (S.ctr x k).sat
def refsAt : Nat → List Cell → Bool
  | _, [] => true
  | j, .ref l :: cs => l == j && refsAt (j + 1) cs
  | _, .nil :: _ => false
  | j, _ :: cs => refsAt (j + 1) cs
def hpSt (hp : List (Nat × Tree)) : St := { nt := 0, tm := [], bx := [], hp := hp, fb := [], fl := [] }
def MS.spec (S : MS) : D.Spec := fun A => match A.tm, A.bx with
  | [.v agg cs, .v false [.sc (.int .i64 k)]], [] => bif agg == S.s.agg && refsAt 0 cs then (match litC (hpSt A.hp) cs with
    | some (ds, _) => match S.s.dec ds with
      | some x => some (.df [S.pre x k] (S.s.X × Int) (S.fn x k) fun y => S.pst y.1 y.2)
      | none => none
    | none => none) else none
  | _, _ => none
theorem litC_get {σ : St} : ∀ {cs : List Cell} {ds : List FC} {ab : List Nat}, litC σ cs = some (ds, ab) → ds.length = cs.length ∧ ∀ (j : Nat) (c : Cell) (d : FC), cs[j]? = some c → ds[j]? = some d →
    (c = .nil ∧ d = .nl) ∨ (∃ l T, c = .ref l ∧ look σ.hp l = some T ∧ d = .l T.t T.xs) ∨ ∃ v, c.val? = some v ∧ d = .val v := by
  intro cs
  induction cs with
  | nil => intro ds ab h; simp only [litC, Option.some.injEq, Prod.mk.injEq] at h; obtain ⟨rfl, rfl⟩ := h; simp
  | cons c cs ih =>
    intro ds ab h
    simp only [litC] at h
    split at h
    · rename_i ds0 ab0 h0
      obtain ⟨h1, h2⟩ := ih h0
      have go : ∀ d, ds = d :: ds0 → ((c = .nil ∧ d = .nl) ∨ (∃ l T, c = .ref l ∧ look σ.hp l = some T ∧ d = .l T.t T.xs) ∨ ∃ v, c.val? = some v ∧ d = .val v) → ds.length = (c :: cs).length ∧ ∀ (j : Nat) (c' : Cell) (d : FC), (c :: cs)[j]? = some c' → ds[j]? = some d →
          (c' = .nil ∧ d = .nl) ∨ (∃ l T, c' = .ref l ∧ look σ.hp l = some T ∧ d = .l T.t T.xs) ∨ ∃ v, c'.val? = some v ∧ d = .val v := by
        intro d hd hx
        subst hd
        refine ⟨by simp [h1], fun j c' d' hc hd' => ?_⟩
        cases j with
        | zero => simp only [List.getElem?_cons_zero, Option.some.injEq] at hc hd'; subst hc; subst hd'; exact hx
        | succ j => exact h2 j c' d' (by simpa using hc) (by simpa using hd')
      split at h
      · simp only [Option.some.injEq, Prod.mk.injEq] at h
        exact go _ h.1.symm (.inl ⟨rfl, rfl⟩)
      · rename_i l
        split at h
        · rename_i T hT
          split at h
          · cases h
          · simp only [Option.some.injEq, Prod.mk.injEq] at h
            exact go _ h.1.symm (.inr (.inl ⟨l, T, rfl, hT, rfl⟩))
        · cases h
      · split at h
        · rename_i v hv
          simp only [Option.some.injEq, Prod.mk.injEq] at h
          exact go _ h.1.symm (.inr (.inr ⟨v, hv, rfl⟩))
        · cases h
    · cases h
theorem refsAt_get : ∀ {cs : List Cell} {s : Nat}, refsAt s cs = true → (∀ (j l : Nat), cs[j]? = some (.ref l) → l = s + j) ∧ ∀ j : Nat, cs[j]? ≠ some .nil := by
  intro cs
  induction cs with
  | nil => intro s _; simp
  | cons c cs ih =>
    intro s h
    have tail : refsAt (s + 1) cs = true := by
      cases c <;> simp only [refsAt, Bool.and_eq_true, Bool.false_eq_true] at h <;> first | exact h | exact h.2
    obtain ⟨h1, h2⟩ := ih tail
    refine ⟨fun j l hj => ?_, fun j hj => ?_⟩
    · cases j with
      | zero =>
        simp only [List.getElem?_cons_zero, Option.some.injEq] at hj
        subst hj
        simp only [refsAt, Bool.and_eq_true, beq_iff_eq] at h
        omega
      | succ j => have := h1 j l (by simpa using hj); omega
    · cases j with
      | zero => simp only [List.getElem?_cons_zero, Option.some.injEq] at hj; subst hj; simp [refsAt] at h
      | succ j => exact h2 j (by simpa using hj)
theorem FcsLe.eq_of : ∀ {cs ds : List FC}, FcsLe cs ds → (∀ (j : Nat), cs[j]? ≠ some .nl) → cs = ds := by
  intro cs ds h
  induction h with
  | nil => intro _; rfl
  | cons h1 h2 ih =>
    intro hn
    rcases h1 with rfl | ⟨rfl, _⟩
    · rw [ih fun j hj => hn (j + 1) (by simpa using hj)]
    · exact absurd rfl (hn 0)
theorem takeH_look : ∀ {cs : List FC} {s l : Nat} {T : Tree}, look (takeH s cs) l = some T → s ≤ l ∧ cs[l - s]? = some (.l T.t T.xs) := by
  intro cs
  induction cs with
  | nil => intro s l T h; simp [takeH, look] at h
  | cons c cs ih =>
    intro s l T h
    have step : look (takeH (s + 1) cs) l = some T → s ≤ l ∧ (c :: cs)[l - s]? = some (.l T.t T.xs) := by
      intro h
      obtain ⟨h1, h2⟩ := ih h
      refine ⟨by omega, ?_⟩
      rw [show l - s = (l - (s + 1)) + 1 from by omega]
      simpa using h2
    cases c with
    | val v => exact step h
    | nl => exact step h
    | l t xs =>
      simp only [takeH, look] at h
      split at h
      · rename_i e
        have e' : l = s := beq_iff_eq.1 e
        subst e'
        simp only [Option.some.injEq] at h
        subst h
        simp
      · exact step h
theorem takeC_get : ∀ {cs : List FC} {s j : Nat} {c : Cell}, (takeC s cs)[j]? = some c → ∃ d, cs[j]? = some d ∧ ((∃ v, d = .val v ∧ c = .sc v) ∨ (d = .nl ∧ c = .nil) ∨ ∃ t xs, d = .l t xs ∧ c = .ref (s + j)) := by
  intro cs
  induction cs with
  | nil => intro s j c h; simp [takeC] at h
  | cons d cs ih =>
    intro s j c h
    cases j with
    | zero =>
      cases d <;> simp only [takeC, List.getElem?_cons_zero, Option.some.injEq] at h <;> subst h
      · exact ⟨_, rfl, .inl ⟨_, rfl, rfl⟩⟩
      · exact ⟨_, rfl, .inr (.inl ⟨rfl, rfl⟩)⟩
      · exact ⟨_, rfl, .inr (.inr ⟨_, _, rfl, rfl⟩)⟩
    | succ j =>
      have h' : (takeC (s + 1) cs)[j]? = some c := by cases d <;> simpa [takeC] using h
      obtain ⟨d', h1, h2⟩ := ih h'
      refine ⟨d', by simpa using h1, ?_⟩
      rwa [show s + 1 + j = s + (j + 1) from by omega] at h2
theorem MS.spec_ok {S : MS} {P : Program} {f : Nat} (h : S.ok P f) : SpecOk P f S.spec := by
  intro A c hc hp
  unfold MS.spec at hc
  split at hc
  · rename_i agg cs k htm hbx
    cases hcd : (agg == S.s.agg && refsAt 0 cs) with
    | false => simp [hcd] at hc
    | true =>
      simp only [hcd, cond_true] at hc
      simp only [Bool.and_eq_true, beq_iff_eq] at hcd
      obtain ⟨rfl, hrefs⟩ := hcd
      split at hc
      · rename_i ds ab hl
        split at hc
        · rename_i x hx
          simp only [Option.some.injEq] at hc
          subst hc
          have hpre : S.pre x k := hp _ (List.mem_singleton_self _)
          obtain ⟨l1, l2⟩ := litC_get hl
          obtain ⟨r1, r2⟩ := refsAt_get hrefs
          have hds : ds = S.s.fc x := by
            refine (Sh.dec_ok hx).eq_of fun j hj => ?_
            have hlt : j < cs.length := by rw [← l1]; exact (List.getElem?_eq_some_iff.1 hj).1
            rcases l2 j _ _ (List.getElem?_eq_getElem hlt) hj with ⟨e, _⟩ | ⟨_, _, _, _, e⟩ | ⟨_, _, e⟩
            · exact r2 j (by rw [List.getElem?_eq_getElem hlt, e])
            · cases e
            · cases e
          subst hds
          intro w vs G hB hA
          refine (h x k hpre w vs G hB ⟨?_, ?_, by simp [MS.arg, look], ?_, hA.lt, hA.cr⟩).mono ?_
          · rw [hA.sz, htm]; rfl
          · intro j y hj
            cases j with
            | zero =>
              simp only [MS.arg, List.getElem?_cons_zero, Option.some.injEq] at hj
              subst hj
              obtain ⟨v, hv, ht⟩ := hA.tm 0 (.v S.s.agg cs) (by rw [htm]; rfl)
              refine ⟨v, hv, part_map (cs := cs) (by rw [takeC_len, l1]) (fun j d hd => ?_) ht⟩
              obtain ⟨fc, hfc, hcase⟩ := takeC_get hd
              have hlt : j < cs.length := by rw [← l1]; exact (List.getElem?_eq_some_iff.1 hfc).1
              refine ⟨cs[j], List.getElem?_eq_getElem hlt, fun u hu => ?_⟩
              have hrel := l2 j _ _ (List.getElem?_eq_getElem hlt) hfc
              rcases hcase with ⟨v', rfl, rfl⟩ | ⟨rfl, rfl⟩ | ⟨t, xs, rfl, rfl⟩
              · rcases hrel with ⟨_, e⟩ | ⟨_, _, _, _, e⟩ | ⟨v'', hv'', e⟩
                · cases e
                · cases e
                · injection e with e; subst e; exact Cell.val_ok hu hv''
              · rcases hrel with ⟨e, _⟩ | ⟨_, _, _, _, e⟩ | ⟨_, _, e⟩
                · exact absurd (by rw [List.getElem?_eq_getElem hlt, e]) (r2 j)
                · cases e
                · cases e
              · rcases hrel with ⟨_, e⟩ | ⟨l, T, e1, _, _⟩ | ⟨_, _, e⟩
                · cases e
                · have hl' := r1 j l (by rw [List.getElem?_eq_getElem hlt, e1])
                  rw [e1] at hu
                  subst hl'
                  exact hu
                · cases e
            | succ j =>
              obtain ⟨v, hv, ht⟩ := hA.tm (j + 1) y (by rw [htm]; exact hj)
              exact ⟨v, hv, ht⟩
          · intro l T hl'
            obtain ⟨_, hfc⟩ := takeH_look hl'
            rw [Nat.sub_zero] at hfc
            have hlt : l < cs.length := by rw [← l1]; exact (List.getElem?_eq_some_iff.1 hfc).1
            rcases l2 l _ _ (List.getElem?_eq_getElem hlt) hfc with ⟨_, e⟩ | ⟨l', T', e1, e2, e3⟩ | ⟨_, _, e⟩
            · cases e
            · have hl2 := r1 l l' (by rw [List.getElem?_eq_getElem hlt, e1])
              rw [Nat.zero_add] at hl2
              subst hl2
              obtain ⟨t1, x1⟩ := T
              obtain ⟨t2, x2⟩ := T'
              injection e3 with e4 e5
              subst e4
              have e5 := eq_of_heq e5
              subst e5
              exact hA.hp l' _ e2
            · cases e
          · rintro e w' ⟨v, p, hs, hrest⟩
            exact ⟨v, p, hs, hrest⟩
        · cases hc
      · cases hc
  · cases hc
def Env.addM (E : Env) (f : Nat) (S : MS) : Env := E.ext f [.keep] S.spec
theorem EOk.addM {P : Program} {E : Env} (h : EOk P E) {f : Nat} {S : MS} (hS : S.ok P f) : EOk P (E.addM f S) := h.ext (MS.spec_ok hS) fun hn => by cases hn
theorem MS.of {S : MS} {P : Program} {E : Env} {L : S.s.X → Int → LEnv} {kp kl : List Nat} {f : Nat} {fn : Func} (hE : EOk P E) (hf : P.funcs[f]? = some fn) (hb : fn.body.isSome = true) (hn : decide (2 ≤ fn.ntmps) = true)
    (hh : ∀ x k, S.pre x k → HoldsE (fnOut P E (L x k) kp kl fn (S.arg x k)) (S.ctr x k).post) : S.ok P f := by
  intro x k hx
  exact con_run hE hf hb hn (hh x k hx).h
theorem MS.leaf {S : MS} {x : S.s.X} {k : Int} {r : Res} {bx : List (Nat × List FC)} {hp : List (Nat × Tree)} (h : pstSame ⟨r, hp, bx⟩ (S.pst (S.fn x k).1 (S.fn x k).2)) : (Out.leaf r bx hp).holds (S.ctr x k).post := h
theorem MS.leafL {t : Ty} {pre : List (El t) → Int → Prop} {fn : List (El t) → Int → List (El t) × Int} {l xs' : List (El t)} {k k' : Int} (h : (xs', k') = fn l k) : (Out.leaf (.one false [vi k']) [] [(0, ⟨t, xs'⟩)]).holds ((MS.mk (.sl t) pre fn).ctr l k).post := by
  show pstSame _ (MS.pst (MS.mk (.sl t) pre fn) (fn l k).1 (fn l k).2)
  rw [← h]
  exact ⟨⟨rfl, rfl, trivial⟩, trivial, rfl⟩
end Go.D
