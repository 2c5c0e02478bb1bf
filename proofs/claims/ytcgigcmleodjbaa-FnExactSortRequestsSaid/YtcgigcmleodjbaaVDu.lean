/-
  Regions that draw their order: sound for every order.
-/
import Derived.Test.YtcgigcmleodjbaaVDt
import Derived.Orders
namespace Go.D
set_option linter.unusedVariables false
def deadSt (d : Option Nat) (σ : St) : St := { σ with tm := (match d with | some d => [(d, skp)] | none => []), bx := [], hp := [] }
def isCut (E : Env) (o : Oper) (v : St) : Bool := match o.op with
  | .store _ _ _ => true
  | .call c => match c.callee with
    | .builtin .append => (match c.args.toList with
      | .tmp t :: _ => (match v.get t with
        | .capd _ 0 => false
        | _ => true)
      | _ => true)
    | .builtin .clear => true
    | .value f => match v.eval f with
      | .clo g _ => match E.fn g with
        | some (ms, _) => ms.any fun m => match m with
          | .lend => false
          | .cur => false
          | _ => true
        | none => false
      | _ => false
    | _ => false
  | .buildSlice _ _ ps => !(ps.toList.all fun p => (v.eval p.2).refsAll fun _ => false)
  | _ => false
def cutOk (t : Tab) (i : Nat) : Bool := (List.range t.n).all fun k => k == i || (bif decide (k < i) then t.bit i k else t.bit k i)
def isBS (o : Oper) : Bool := match o.op with
  | .buildSlice _ _ _ => true
  | _ => false
def asgC (t : Tab) (o : Oper) (i : Nat) : Bool := (match o.op with | .assign _ => true | _ => false) && cutOk t i
def classOk (t : Tab) (i : Nat) (o : Oper) (σ : St) : Bool := match o.dst with
  | none => true
  | some d => (match look t.ws d with | some k => k == i | none => false) && decide (d < σ.nt)
def TV.isCur : TV → Bool
  | .cur => true
  | _ => false
/-- a call that moves a cursor -/
def isCurCall (o : Oper) (v : St) : Bool := match o.op with
  | .call c => c.args.toList.any fun x => (v.eval x).isCur
  | _ => false
/-- whatever comes later stands behind i -/
def semi (t : Tab) (i : Nat) : Bool := (List.range t.n).all fun k => decide (k ≤ i) || t.bit k i
/-- fr: nothing has come up since the last operation that stood alone -/
def evR (P : Program) (E : Env) (ops : Array Oper) (t : Tab) : Bool → List Nat → St → (St → Out) → Out
  | fr, [], σ, K => bif fr || segOk t σ then K σ else .bad
  | fr, i :: rest, σ, K => match ops[i]? with
    | none => .bad
    | some o =>
      bif (isCut E o (σ.view t (t.bit i)) && (cutOk t i || !isBS o)) || asgC t o i then
        bif (fr || segOk t σ) && cutOk t i then guarded ops o (σ.view t (t.bit i)) (σ.view t (t.bit i)) (fun v => step P E false o v.lits (fun σ' => evR P E ops t true rest σ' K)) (fun v => evR P E ops t true rest (v.setTm o.dst skp) K) else .bad
      else bif classOk t i o σ then
        bif isCurCall o (σ.view t (t.bit i)) then
          bif (fr || segOk t σ) && semi t i then guarded ops o σ (σ.view t (t.bit i)) (fun σr => (step P E true o (σr.view t (t.bit i)) (.st .normal)).bindL (fun σ' => evR P E ops t false rest (σr.merge o.dst σ') K)) (fun σr => evR P E ops t false rest (σr.merge o.dst (deadSt o.dst σr)) K) else .bad
        else
        guarded ops o σ (σ.view t (t.bit i)) (fun σr => (step P E true o (σr.view t (t.bit i)) (.st .normal)).bind (fun σ' => evR P E ops t false rest (σr.merge o.dst σ') K)) (fun σr => evR P E ops t false rest (σr.merge o.dst (deadSt o.dst σr)) K) else .bad
/-- the region's edges point back -/
def dirsOk (ops : Array Oper) : Bool := ops.toList.zipIdx.all fun x => (dirs x.1).all fun j => decide (j < x.2)
section
variable {P : Program} {E : Env} {F : Fr P} {G G' : Gh} {σ σ' σb : St} {a a' : Act} {w w' : World} {o : Oper} {K : St → Out} {Q : Post} {Qx : Exit → Act → World → Prop} {ops : Array Oper}
theorem wsGo_mem : ∀ (os : List Oper) (i s k : Nat), (s, k) ∈ wsGo i os → i ≤ k ∧ ∃ o, os[k - i]? = some o ∧ o.dst = some s := by
  intro os
  induction os with
  | nil => intro i s k h; simp [wsGo] at h
  | cons o os ih =>
    intro i s k h
    simp only [wsGo] at h
    have go : (s, k) ∈ wsGo (i + 1) os → i ≤ k ∧ ∃ o', (o :: os)[k - i]? = some o' ∧ o'.dst = some s := by
      intro h
      obtain ⟨h1, o', h2, h3⟩ := ih (i + 1) s k h
      refine ⟨by omega, o', ?_, h3⟩
      rw [show k - i = (k - (i + 1)) + 1 by omega]
      simpa using h2
    split at h
    · rename_i d hd
      rcases List.mem_cons.1 h with h | h
      · injection h with h1 h2
        subst h1; subst h2
        exact ⟨Nat.le_refl _, o, by simp, hd⟩
      · exact go h
    · exact go h
theorem ws_ok {s k : Nat} (h : look (tabOf ops).ws s = some k) : ∃ o, ops[k]? = some o ∧ o.dst = some s := by
  have hm := mem_look h
  simp only [tabOf, List.mem_filter] at hm
  obtain ⟨_, o, h1, h2⟩ := wsGo_mem ops.toList 0 s k hm.1
  exact ⟨o, by simpa using h1, h2⟩
theorem bit_ok {i j : Nat} {o : Oper} (ho : ops[i]? = some o) (h : (tabOf ops).bit i j = true) : ∃ e ∈ dirs o, j = e ∨ (tabOf ops).bit e j = true := by
  have := (masksGo_get ops.toList []).2.2 i o (by simpa using ho) j (by simpa [tabOf, Tab.bit] using h)
  simpa [tabOf, Tab.bit] using this
theorem bit_lt (hd : dirsOk ops = true) : ∀ (i j : Nat), (tabOf ops).bit i j = true → j < i := by
  intro i
  induction i using Nat.strongRecOn with
  | ind i ih =>
    intro j h
    cases ho : ops[i]? with
    | none =>
      have hlen : (tabOf ops).T.length = ops.size := by simpa [tabOf] using (masksGo_get ops.toList []).2.1
      have : ops.size ≤ i := by simpa using ho
      have h0 : (tabOf ops).T.getD i 0 = 0 := by rw [List.getD_eq_getElem?_getD, List.getElem?_eq_none (by omega)]; rfl
      rw [Tab.bit, h0] at h
      simp at h
    | some o =>
      obtain ⟨e, he, hh⟩ := bit_ok ho h
      have hlt : e < i := by
        unfold dirsOk at hd
        rw [List.all_eq_true] at hd
        have := hd (o, i) (by rw [List.mem_zipIdx_iff_getElem?]; simpa using ho)
        rw [List.all_eq_true] at this
        simpa using this e he
      rcases hh with rfl | hh
      · exact hlt
      · have := ih e hlt j hh; omega
/-- slots that the operations from i on don't write -/
def Before (t : Tab) (i s : Nat) : Prop := ∀ k, look t.ws s = some k → k < i
structure Later (t : Tab) (i : Nat) (σ σ' : St) : Prop where
  tm1 : ∀ s x, Before t i s → look σ.tm s = some x → ∃ y, look σ'.tm s = some y ∧ Imp y x
  tm2 : ∀ s y, Before t i s → look σ'.tm s = some y → ∃ x, look σ.tm s = some x ∧ Imp x y
  bx : ∀ s, Before t i s → look σ'.bx s = look σ.bx s
  hp : ∀ l, Before t i (l / 64) → look σ'.hp l = look σ.hp l
  fb : σ'.fb = σ.fb
  fl : σ'.fl = σ.fl
  nt : σ'.nt = σ.nt
theorem Later.refl (t : Tab) (i : Nat) (σ : St) : Later t i σ σ := ⟨fun s x _ h => ⟨x, h, fun _ _ _ h => h⟩, fun s x _ h => ⟨x, h, fun _ _ _ h => h⟩, fun _ _ => rfl, fun _ _ => rfl, rfl, rfl, rfl⟩
theorem Later.trans {t : Tab} {i : Nat} {σ1 σ2 σ3 : St} (h : Later t i σ1 σ2) (h' : Later t i σ2 σ3) : Later t i σ1 σ3 :=
  ⟨fun s x hb hl => let ⟨y, h1, h2⟩ := h.tm1 s x hb hl; let ⟨z, h3, h4⟩ := h'.tm1 s y hb h1; ⟨z, h3, fun w G v hv => h2 w G v (h4 w G v hv)⟩,
   fun s z hb hl => let ⟨y, h1, h2⟩ := h'.tm2 s z hb hl; let ⟨x, h3, h4⟩ := h.tm2 s y hb h1; ⟨x, h3, fun w G v hv => h2 w G v (h4 w G v hv)⟩,
   fun s hb => (h'.bx s hb).trans (h.bx s hb), fun l hb => (h'.hp l hb).trans (h.hp l hb), h'.fb.trans h.fb, h'.fl.trans h.fl, h'.nt.trans h.nt⟩
theorem Later.mono {t : Tab} {i j : Nat} (hij : i ≤ j) (h : Later t j σ σ') : Later t i σ σ' := by
  have hb : ∀ s, Before t i s → Before t j s := fun s hb k hk => Nat.lt_of_lt_of_le (hb k hk) hij
  exact ⟨fun s x hs => h.tm1 s x (hb s hs), fun s x hs => h.tm2 s x (hb s hs), fun s hs => h.bx s (hb s hs), fun l hs => h.hp l (hb _ hs), h.fb, h.fl, h.nt⟩
theorem Later.merge {t : Tab} {i : Nat} {d : Option Nat} (hd : ∀ d0, d = some d0 → look t.ws d0 = some i) : Later t i σ (σ.merge d σ') := by
  cases d with
  | none => exact Later.refl _ _ _
  | some d0 =>
    have hne : ∀ s, Before t i s → s ≠ d0 := fun s hs e => by have := hs i (e ▸ hd d0 rfl); omega
    refine ⟨fun s x hs hl => ⟨x, ?_, fun _ _ _ h => h⟩, fun s x hs hl => ⟨x, ?_, fun _ _ _ h => h⟩, fun s hs => ?_, fun l hs => ?_, rfl, rfl, rfl⟩
    · rw [merge_tm, if_neg (hne s hs)]; exact hl
    · rw [merge_tm, if_neg (hne s hs)] at hl; exact hl
    · rw [merge_bx, if_neg (hne s hs)]
    · rw [merge_hp, if_neg (hne _ hs)]
theorem BoolIs.imp {x y : TV} {b : Bool} (hx : BoolIs x b) (hy : BoolIs y b) : Imp x y := fun w G v h => by rw [hx.val h]; exact hy.mk
theorem get_look {σ : St} {t : Nat} {x : TV} (h : σ.get t = x) (hx : x ≠ .dead) : look σ.tm t = some x := by
  unfold St.get at h
  cases hq : look σ.tm t with
  | none => rw [hq] at h; exact absurd h.symm hx
  | some y => rw [hq] at h; simp only [Option.getD_some] at h; rw [h]
theorem Later.guard {t : Tab} {S : Nat → Bool} {i : Nat} {σr : St} {wanted : Bool} (hg : GuardIs ops o σ (σ.view t S) σr wanted) : Later t i σ σr := by
  rcases hg with ⟨_, _, rfl⟩ | ⟨j, want, s0, b, _, _, h3, _, rfl | rfl⟩ | ⟨j, want, s0, _, _, _, _, rfl⟩
  · exact Later.refl _ _ _
  · exact Later.refl _ _ _
  · have hl : look σ.tm s0 = some ((σ.view t S).get s0) := by
      have := get_look (σ := σ.view t S) (t := s0) rfl (by rcases h3 with e | e <;> rw [e] <;> simp)
      rw [look_view_tm] at this
      split at this
      · exact this
      · cases this
    have hy : BoolIs (.v false [if b then Cell.tt else .ff]) b := .inr rfl
    refine ⟨fun s x hs hx => ?_, fun s x hs hx => ?_, fun _ _ => rfl, fun _ _ => rfl, rfl, rfl, rfl⟩
    · simp only [St.put, look_put]
      by_cases e : s = s0
      · subst e
        rw [hl] at hx
        injection hx with hx
        subst hx
        exact ⟨_, by simp, hy.imp h3⟩
      · exact ⟨x, by simp [e, hx], fun _ _ _ h => h⟩
    · simp only [St.put, look_put] at hx
      by_cases e : s = s0
      · subst e
        simp only [if_true, Option.some.injEq] at hx
        subst hx
        exact ⟨_, hl, h3.imp hy⟩
      · simp only [e, if_false] at hx
        exact ⟨x, hx, fun _ _ _ h => h⟩
  · exact Later.refl _ _ _
def OpFact (P : Program) (E : Env) (ops : Array Oper) (i : Nat) (σ σ1 : St) : Prop := ∃ o σr wanted, ops[i]? = some o ∧ GuardIs ops o σ (σ.view (tabOf ops) ((tabOf ops).bit i)) σr wanted ∧ classOk (tabOf ops) i o σ = true ∧
  ((wanted = true ∧ ∃ σ', (step P E true o (σr.view (tabOf ops) ((tabOf ops).bit i)) (.st .normal)).holds (is1 σ') ∧ σ1 = σr.merge o.dst σ') ∨ (wanted = false ∧ σ1 = σr.merge o.dst (deadSt o.dst σr)))
inductive Seg (P : Program) (E : Env) (ops : Array Oper) : Nat → St → Nat → St → Prop where
  | nil (i : Nat) (σ : St) : Seg P E ops i σ i σ
  | cons {i b : Nat} {σ σ1 σb : St} : OpFact P E ops i σ σ1 → Seg P E ops (i + 1) σ1 b σb → Seg P E ops i σ b σb
theorem classOk_ok {t : Tab} {i : Nat} (h : classOk t i o σ = true) : ∀ d, o.dst = some d → look t.ws d = some i ∧ d < σ.nt := by
  intro d hd
  unfold classOk at h
  rw [hd] at h
  simp only [Bool.and_eq_true, decide_eq_true_eq] at h
  obtain ⟨h1, h2⟩ := h
  refine ⟨?_, h2⟩
  split at h1
  · rename_i k e; rw [e]; simpa using h1
  · cases h1
theorem OpFact.later {i : Nat} {σ1 : St} (h : OpFact P E ops i σ σ1) : Later (tabOf ops) i σ σ1 := by
  obtain ⟨o, σr, wanted, ho, hg, hc, h⟩ := h
  have h1 := Later.guard (i := i) hg
  have hd := fun d0 hd0 => (classOk_ok hc d0 hd0).1
  rcases h with ⟨_, σ', _, rfl⟩ | ⟨_, rfl⟩
  · exact h1.trans (Later.merge hd)
  · exact h1.trans (Later.merge hd)
theorem Seg.later {i b : Nat} (h : Seg P E ops i σ b σb) : i ≤ b ∧ Later (tabOf ops) i σ σb ∧ ∀ k, i ≤ k → k < b → ∃ σk σk1, OpFact P E ops k σk σk1 ∧ Later (tabOf ops) (k + 1) σk1 σb := by
  induction h with
  | nil i σ => exact ⟨Nat.le_refl _, Later.refl _ _ _, fun k h1 h2 => by omega⟩
  | @cons i b σ σ1 σb hf _ ih =>
    obtain ⟨h1, h2, h3⟩ := ih
    refine ⟨by omega, hf.later.trans (h2.mono (by omega)), fun k hk1 hk2 => ?_⟩
    by_cases e : k = i
    · subst e; exact ⟨σ, σ1, hf, h2⟩
    · exact h3 k (by omega) hk2
/-- what comes behind a run of operations that commute -/
def TailFact (P : Program) (E : Env) (ops : Array Oper) (K : St → Out) (Q : Post) (n b : Nat) (σb : St) : Prop :=
  (b = n ∧ (K σb).holds Q) ∨ (b < n ∧ ∃ o, ops[b]? = some o ∧ cutOk (tabOf ops) b = true ∧
    (guarded ops o (σb.view (tabOf ops) ((tabOf ops).bit b)) (σb.view (tabOf ops) ((tabOf ops).bit b)) (fun v => step P E false o v.lits (fun σ' => evR P E ops (tabOf ops) true (List.range' (b + 1) (n - (b + 1))) σ' K)) (fun v => evR P E ops (tabOf ops) true (List.range' (b + 1) (n - (b + 1))) (v.setTm o.dst skp) K)).holds Q) ∨
  (b < n ∧ ∃ o, ops[b]? = some o ∧ semi (tabOf ops) b = true ∧ classOk (tabOf ops) b o σb = true ∧
    (guarded ops o σb (σb.view (tabOf ops) ((tabOf ops).bit b)) (fun σr => (step P E true o (σr.view (tabOf ops) ((tabOf ops).bit b)) (.st .normal)).bindL (fun σ' => evR P E ops (tabOf ops) false (List.range' (b + 1) (n - (b + 1))) (σr.merge o.dst σ') K)) (fun σr => evR P E ops (tabOf ops) false (List.range' (b + 1) (n - (b + 1))) (σr.merge o.dst (deadSt o.dst σr)) K)).holds Q)
theorem evR_plan : ∀ (m i : Nat) (fr : Bool) (σ : St), (evR P E ops (tabOf ops) fr (List.range' i m) σ K).holds Q → ∃ b σb, Seg P E ops i σ b σb ∧ b ≤ i + m ∧ (segOk (tabOf ops) σb = true ∨ (fr = true ∧ b = i)) ∧ TailFact P E ops K Q (i + m) b σb := by
  intro m
  induction m with
  | zero =>
    intro i fr σ h
    simp only [List.range'_zero, evR] at h
    cases hs : (fr || segOk (tabOf ops) σ) with
    | false => simp [hs, Out.holds] at h
    | true =>
      simp only [hs, cond_true] at h
      rw [Bool.or_eq_true] at hs
      exact ⟨i, σ, .nil i σ, Nat.le_refl _, hs.symm.imp id (fun e => ⟨e, rfl⟩), .inl ⟨rfl, h⟩⟩
  | succ m ih =>
    intro i fr σ h
    simp only [List.range'_succ, evR] at h
    split at h
    · exact h.elim
    · rename_i o ho
      cases hcut : ((isCut E o (σ.view (tabOf ops) ((tabOf ops).bit i)) && (cutOk (tabOf ops) i || !isBS o)) || asgC (tabOf ops) o i) with
      | true =>
        simp only [hcut, cond_true] at h
        cases hc : ((fr || segOk (tabOf ops) σ) && cutOk (tabOf ops) i) with
        | false => simp [hc, Out.holds] at h
        | true =>
          simp only [hc, cond_true] at h
          rw [Bool.and_eq_true, Bool.or_eq_true] at hc
          refine ⟨i, σ, .nil i σ, by omega, hc.1.symm.imp id (fun e => ⟨e, rfl⟩), .inr (.inl ⟨by omega, o, ho, hc.2, ?_⟩)⟩
          rw [show i + (m + 1) - (i + 1) = m from by omega]
          exact h
      | false =>
        simp only [hcut, cond_false] at h
        cases hc : classOk (tabOf ops) i o σ with
        | false => simp [hc, Out.holds] at h
        | true =>
          simp only [hc, cond_true] at h
          cases hcur : isCurCall o (σ.view (tabOf ops) ((tabOf ops).bit i)) with
          | true =>
            simp only [hcur, cond_true] at h
            cases hc2 : ((fr || segOk (tabOf ops) σ) && semi (tabOf ops) i) with
            | false => simp [hc2, Out.holds] at h
            | true =>
              simp only [hc2, cond_true] at h
              rw [Bool.and_eq_true, Bool.or_eq_true] at hc2
              refine ⟨i, σ, .nil i σ, by omega, hc2.1.symm.imp id (fun e => ⟨e, rfl⟩), .inr (.inr ⟨by omega, o, ho, hc2.2, hc, ?_⟩)⟩
              rw [show i + (m + 1) - (i + 1) = m from by omega]
              exact h
          | false =>
          simp only [hcur, cond_false] at h
          obtain ⟨σr, wanted, hg, h⟩ := guarded_holds h
          cases wanted with
          | true =>
            simp only [if_true] at h
            obtain ⟨σ', h1, h2⟩ := Out.bind_holds h
            obtain ⟨b, σb, k1, k2, k3, k4⟩ := ih (i + 1) false _ h2
            rw [show i + 1 + m = i + (m + 1) from by omega] at k2 k4
            exact ⟨b, σb, .cons ⟨o, σr, true, ho, hg, hc, .inl ⟨rfl, σ', h1, rfl⟩⟩ k1, k2, .inl (k3.resolve_right (by simp)), k4⟩
          | false =>
            simp only [Bool.false_eq_true, if_false] at h
            obtain ⟨b, σb, k1, k2, k3, k4⟩ := ih (i + 1) false _ h
            rw [show i + 1 + m = i + (m + 1) from by omega] at k2 k4
            exact ⟨b, σb, .cons ⟨o, σr, false, ho, hg, hc, .inr ⟨rfl, rfl⟩⟩ k1, k2, .inl (k3.resolve_right (by simp)), k4⟩
end
end Go.D
