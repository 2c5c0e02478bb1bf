/-
  Regions: in their given order; in every order that the tape may draw.
-/
import Derived.Test.YtcgigcmleodjbaaVDr
namespace Go.D
set_option linter.unusedVariables false
def Out.bind : Out → (St → Out) → Out
  | .st .normal σ, f => f σ
  | .br b x y, f => .br b (x.bind f) (y.bind f)
  | .ob p x, f => .ob p (x.bind f)
  | .lt X e x, f => .lt X e fun y => (x y).bind f
  | _, _ => .bad
/-- one outcome of many -/
def is1 (σ' : St) : Post := ⟨fun _ _ _ => False, fun e σ => e = .normal ∧ σ = σ'⟩
theorem Out.bind_holds {Q : Post} {f : St → Out} : ∀ {x : Out}, (x.bind f).holds Q → ∃ σ', x.holds (is1 σ') ∧ (f σ').holds Q := by
  intro x
  induction x with
  | leaf r bx hp => intro h; exact h.elim
  | st e σ =>
    intro h
    cases e with
    | normal => exact ⟨σ, ⟨rfl, rfl⟩, h⟩
    | exit id => exact h.elim
    | ret => exact h.elim
  | br b x y ihx ihy =>
    intro h
    cases b with
    | true => obtain ⟨σ', h1, h2⟩ := ihx (h.1 rfl); exact ⟨σ', ⟨fun _ => h1, fun h => by simp at h⟩, h2⟩
    | false => obtain ⟨σ', h1, h2⟩ := ihy (h.2 rfl); exact ⟨σ', ⟨fun h => by simp at h, fun _ => h1⟩, h2⟩
  | ob p x ih => intro h; obtain ⟨σ', h1, h2⟩ := ih h.2; exact ⟨σ', ⟨h.1, h1⟩, h2⟩
  | lp X p inv x ih => intro h; exact h.elim
  | lt X e x ih => intro h; exact ih e h
  | ok => intro h; exact h.elim
  | bad => intro h; exact h.elim
/-- likewise; and what a call returns may be one of many -/
def Out.bindL : Out → (St → Out) → Out
  | .st .normal σ, f => f σ
  | .br b x y, f => .br b (x.bindL f) (y.bindL f)
  | .ob p x, f => .ob p (x.bindL f)
  | .lt X e x, f => .lt X e fun y => (x y).bindL f
  | .lp X p inv x, f => .lp X p inv fun y => (x y).bindL f
  | _, _ => .bad
def behind (Q : Post) (f : St → Out) : Post := ⟨fun _ _ _ => False, fun e σ => e = .normal ∧ (f σ).holds Q⟩
theorem Out.bindL_holds {Q : Post} {f : St → Out} : ∀ {x : Out}, (x.bindL f).holds Q → x.holds (behind Q f) := by
  intro x
  induction x with
  | leaf r bx hp => intro h; exact h.elim
  | st e σ =>
    intro h
    cases e with
    | normal => exact ⟨rfl, h⟩
    | exit id => exact h.elim
    | ret => exact h.elim
  | br b x y ihx ihy => intro h; exact ⟨fun e => ihx (h.1 e), fun e => ihy (h.2 e)⟩
  | ob p x ih => intro h; exact ⟨h.1, ih h.2⟩
  | lp X p inv x ih => intro h; exact ⟨h.1, fun y hy => ih y (h.2 y hy)⟩
  | lt X e x ih => intro h; exact ih e h
  | ok => intro h; exact h.elim
  | bad => intro h; exact h.elim
/-! the order given -/
/-- an operation under its guard: g: where the guard's slot is read -/
def guarded (ops : Array Oper) (o : Oper) (σ v : St) (yes no : St → Out) : Out :=
  match o.guard with
  | none => yes σ
  | some (j, want) => match (ops[j]?).bind (·.dst) with
    | some t => match v.get t with
      | .v false [.tt] => bif want then yes σ else no σ
      | .v false [.ff] => bif want then no σ else yes σ
      | .v false [.sc (.bool b)] => .br b
        (bif want then yes (σ.put t (.v false [.tt])) else no (σ.put t (.v false [.tt])))
        (bif want then no (σ.put t (.v false [.ff])) else yes (σ.put t (.v false [.ff])))
      | .tup [] => no σ
      | _ => .bad
    | none => .bad
/-- what a slot holds behind an operation that was not wanted -/
def skp : TV := .tup []
def evOps (P : Program) (E : Env) (ops : Array Oper) : List Nat → St → (St → Out) → Out
  | [], σ, K => K σ
  | i :: rest, σ, K => match ops[i]? with
    | none => evOps P E ops rest σ K
    | some o => guarded ops o σ σ (fun σ => step P E false o σ (fun σ' => evOps P E ops rest σ' K)) (fun σ => evOps P E ops rest (σ.setTm o.dst skp) K)
section
variable {P : Program} {E : Env} {F : Fr P} {G : Gh} {σ : St} {a : Act} {w : World} {o : Oper} {K : St → Out} {Q : Post} {Qx : Exit → Act → World → Prop}
theorem RG.dead (h : RG F G σ a w) (d : Option Nat) (v : Value) : RG F G (σ.setTm d .dead) (a.put d v) w := by
  cases d with
  | none => exact h
  | some d =>
    refine ⟨?_, h.bx, h.hp, h.lt, h.os, h.tape, h.output, h.size, h.keep, h.fb, h.fl, by simpa [Act.put, St.setTm, St.put] using h.nt, h.df⟩
    intro t tv hl
    simp only [St.setTm, St.put, look_put] at hl
    by_cases ht : t = d
    · simp only [ht, if_true, Option.some.injEq] at hl
      subst hl
      trivial
    · simp only [ht, if_false] at hl
      have := h.tm t tv hl
      simpa [Act.put, Array.getElem?_setIfInBounds_ne (Ne.symm ht)] using this
theorem RG.skip (h : RG F G σ a w) (d : Option Nat) : RG F G (σ.setTm d skp) (a.put d undef) w := by
  cases d with
  | none => exact h
  | some d =>
    refine ⟨?_, h.bx, h.hp, h.lt, h.os, h.tape, h.output, h.size, h.keep, h.fb, h.fl, by simpa [Act.put, St.setTm, St.put] using h.nt, h.df⟩
    intro t tv hl
    simp only [St.setTm, St.put, look_put] at hl
    by_cases ht : t = d
    · simp only [ht, if_true, Option.some.injEq] at hl
      subst hl
      refine ⟨#[], ?_, rfl, fun j p hj => by simp at hj⟩
      subst ht
      simp only [Act.put, Array.getD_eq_getD_getElem?, Array.getElem?_setIfInBounds]
      split
      · split <;> simp [undef]
      · rename_i hne; exact absurd trivial hne
    · simp only [ht, if_false] at hl
      have := h.tm t tv hl
      simpa [Act.put, Array.getElem?_setIfInBounds_ne (Ne.symm ht)] using this
theorem get_ok (h : RG F G σ a w) (t : Nat) : TVR w G (σ.get t) (a.tmps.getD t undef) := raw_ok h t
theorem yielded_of {ops : Array Oper} {j t : Nat} {b : Bool} (hj : (ops[j]?).bind (·.dst) = some t) (hv : a.tmps.getD t undef = .bool b) : yielded ops a.tmps j = some b := by
  unfold yielded
  rw [hj]
  simp only [Option.bind_some]
  rw [Array.getD_eq_getD_getElem?] at hv
  cases hq : a.tmps[t]? with
  | none => rw [hq] at hv; simp [undef] at hv
  | some v => rw [hq] at hv; simp only [Option.getD_some] at hv; subst hv; rfl
/-- the cell says which: as it was told, or told anew -/
def BoolIs (x : TV) (b : Bool) : Prop := x = .v false [.sc (.bool b)] ∨ x = .v false [if b then .tt else .ff]
theorem BoolIs.val {x : TV} {b : Bool} {v : Value} (h : BoolIs x b) (hx : TVR w G x v) : v = .bool b := by
  rcases h with rfl | rfl
  · obtain ⟨c, hc, h⟩ := hx; injection hc with hc; subst hc; exact h.1
  · obtain ⟨c, hc, h⟩ := hx; injection hc with hc; subst hc; cases b <;> exact h
theorem BoolIs.mk {x : TV} {b : Bool} (h : BoolIs x b) : TVR w G x (.bool b) := by
  rcases h with rfl | rfl
  · exact ⟨_, rfl, rfl, rfl⟩
  · exact ⟨_, rfl, by cases b <;> rfl⟩
/-- which way, and what is known of the guard's slot behind it -/
def GuardIs (ops : Array Oper) (o : Oper) (σ v σr : St) (wanted : Bool) : Prop :=
  (o.guard = none ∧ wanted = true ∧ σr = σ) ∨ (∃ j want t b, o.guard = some (j, want) ∧ (ops[j]?).bind (·.dst) = some t ∧ BoolIs (v.get t) b ∧ wanted = (b == want) ∧ (σr = σ ∨ σr = σ.put t (.v false [if b then .tt else .ff]))) ∨
  ∃ j want t, o.guard = some (j, want) ∧ (ops[j]?).bind (·.dst) = some t ∧ v.get t = .tup [] ∧ wanted = false ∧ σr = σ
theorem guarded_holds {ops : Array Oper} {v : St} {yes no : St → Out} (h : (guarded ops o σ v yes no).holds Q) : ∃ σr wanted, GuardIs ops o σ v σr wanted ∧ ((if wanted then yes σr else no σr).holds Q) := by
  unfold guarded at h
  split at h
  · rename_i hg
    exact ⟨σ, true, .inl ⟨hg, rfl, rfl⟩, h⟩
  · rename_i j want hg
    split at h
    · rename_i t hj
      split at h
      · rename_i he
        refine ⟨σ, true == want, .inr (.inl ⟨j, want, t, true, hg, hj, .inr he, rfl, .inl rfl⟩), ?_⟩
        cases want <;> simpa using h
      · rename_i he
        refine ⟨σ, false == want, .inr (.inl ⟨j, want, t, false, hg, hj, .inr he, rfl, .inl rfl⟩), ?_⟩
        cases want <;> simpa using h
      · rename_i b he
        cases b with
        | true =>
          have h := h.1 rfl
          refine ⟨_, true == want, .inr (.inl ⟨j, want, t, true, hg, hj, .inl he, rfl, .inr rfl⟩), ?_⟩
          cases want <;> simpa using h
        | false =>
          have h := h.2 rfl
          refine ⟨_, false == want, .inr (.inl ⟨j, want, t, false, hg, hj, .inl he, rfl, .inr rfl⟩), ?_⟩
          cases want <;> simpa using h
      · rename_i he
        exact ⟨σ, false, .inr (.inr ⟨j, want, t, hg, hj, he, rfl, rfl⟩), by simpa using h⟩
      · exact h.elim
    · exact h.elim
theorem GuardIs.wanted_ok {ops : Array Oper} {v σr : St} {wanted : Bool} (hg : GuardIs ops o σ v σr wanted) (h : RG F G v a w) : Region.wanted o (yielded ops a.tmps) = wanted := by
  rcases hg with ⟨h1, rfl, _⟩ | ⟨j, want, t, b, h1, h2, h3, rfl, _⟩ | ⟨j, want, t, h1, h2, h3, rfl, _⟩
  · simp [Region.wanted, h1]
  · have hv := h3.val (get_ok h t)
    simp only [Region.wanted, h1, yielded_of h2 hv]
    cases b <;> cases want <;> rfl
  · have hv := get_ok h t
    rw [h3] at hv
    obtain ⟨vs, hv, _⟩ := hv
    have hy : yielded ops a.tmps j = none := by
      unfold yielded
      rw [h2]
      simp only [Option.bind_some]
      rw [Array.getD_eq_getD_getElem?] at hv
      cases hq : a.tmps[t]? with
      | none => rfl
      | some v => rw [hq] at hv; simp only [Option.getD_some] at hv; subst hv; rfl
    simp only [Region.wanted, h1, hy]
    rfl
theorem GuardIs.retold {ops : Array Oper} {v σr : St} {wanted : Bool} (hg : GuardIs ops o σ v σr wanted) (hv : RG F G v a w) (h : RG F G σ a w) : RG F G σr a w := by
  rcases hg with ⟨_, _, rfl⟩ | ⟨j, want, t, b, _, _, h3, _, rfl | rfl⟩ | ⟨j, want, t, _, _, _, _, rfl⟩
  · exact h
  · exact h
  · refine h.retell ?_
    rw [h3.val (get_ok hv t)]
    exact (BoolIs.mk (.inr rfl))
  · exact h
theorem evOps_ok (hE : EOk P E) {ops : Array Oper} : ∀ (l : List Nat) (σ : St) (G : Gh) (a : Act) (w : World), RG F G σ a w → (evOps P E ops l σ K).holds Q →
    wpOps P ops (fun e a w => e = .normal ∧ Cont F K Q a w) l a w := by
  intro l
  induction l with
  | nil => intro σ G a w h hh; exact ⟨rfl, _, ⟨G, h⟩, hh⟩
  | cons i rest ih =>
    intro σ G a w h hh
    simp only [wpOps]
    simp only [evOps] at hh
    cases ho : ops[i]? with
    | none => simp only [ho] at hh ⊢; exact ih σ G a w h hh
    | some o =>
      simp only [ho] at hh ⊢
      obtain ⟨σr, wanted, hg, hh⟩ := guarded_holds hh
      rw [hg.wanted_ok h]
      have hr := hg.retold h h
      cases wanted with
      | true =>
        simp only [if_true] at hh ⊢
        exact .inl (Oper.wp_mono (fun a1 w1 ⟨σ1, ⟨G1, h1⟩, hh1⟩ => ih σ1 G1 a1 w1 h1 hh1) (step_ok (cls := false) hE hr hh))
      | false =>
        simp only [Bool.false_eq_true, if_false] at hh ⊢
        exact ih _ G _ w (hr.skip o.dst) hh
end
end Go.D
