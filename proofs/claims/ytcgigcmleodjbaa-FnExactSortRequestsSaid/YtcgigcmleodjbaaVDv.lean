/-
  Regions that draw their order: the walk over every order.
-/
import Derived.Test.YtcgigcmleodjbaaVDpe
namespace Go.D
set_option linter.unusedVariables false
section
variable {P : Program} {E : Env} {F : Fr P} {G G' : Gh} {σ σ' σb : St} {a a' : Act} {w w' : World} {o : Oper} {K : St → Out} {Q : Post} {Qx : Exit → Act → World → Prop} {ops : Array Oper}
theorem ok_mono {t : Tab} {S S' : Nat → Bool} (h : ∀ k, S k = true → S' k = true) {s : Nat} (hs : t.ok S s = true) : t.ok S' s = true := by
  unfold Tab.ok at hs ⊢
  cases e : look t.ws s with
  | none => rfl
  | some k => rw [e] at hs; exact h k hs
theorem ok_before {t : Tab} {S : Nat → Bool} {i : Nat} (h : ∀ k, S k = true → k < i) {s : Nat} (hs : t.ok S s = true) : Before t i s := by
  intro k hk
  unfold Tab.ok at hs
  rw [hk] at hs
  exact h k hs
/-- what was told at an operation's turn still stands -/
theorem view_back {t : Tab} {i : Nat} {B S : Nat → Bool} (h : RG F G (σb.view t S) a w) (hB : ∀ k, B k = true → k < i) (hS : ∀ k, B k = true → S k = true) (hl : Later t i σ σb) : RG F G (σ.view t B) a w := by
  refine h.weaken ?_ ?_ ?_ hl.fb.symm hl.fl.symm hl.nt.symm
  · intro s x hx
    rw [look_view_tm] at hx
    split at hx
    · rename_i hs
      obtain ⟨y, h1, h2⟩ := hl.tm1 s x (ok_before hB hs) hx
      exact ⟨y, by rw [look_view_tm, if_pos (ok_mono hS hs)]; exact h1, fun v => h2 w G v⟩
    · cases hx
  · intro s cs hx
    rw [look_view_bx] at hx ⊢
    split at hx
    · rename_i hs
      rw [if_pos (ok_mono hS hs), hl.bx s (ok_before hB hs)]
      exact hx
    · cases hx
  · intro l T hx
    rw [look_view_hp] at hx ⊢
    split at hx
    · rename_i hs
      rw [if_pos (ok_mono hS hs), hl.hp l (ok_before hB hs)]
      exact hx
    · cases hx
/-- at a segment's start -/
theorem view_start {t : Tab} {i : Nat} {S : Nat → Bool} (h : RG F G σ a w) (hS : ∀ k, S k = true → k < i) (hl : Later t i σ σb) : RG F G (σb.view t S) a w := by
  refine h.weaken ?_ ?_ ?_ hl.fb hl.fl hl.nt
  · intro s x hx
    rw [look_view_tm] at hx
    split at hx
    · rename_i hs
      obtain ⟨y, h1, h2⟩ := hl.tm2 s x (ok_before hS hs) hx
      exact ⟨y, h1, fun v => h2 w G v⟩
    · cases hx
  · intro s cs hx
    rw [look_view_bx] at hx
    split at hx
    · rename_i hs
      rw [← hl.bx s (ok_before hS hs)]
      exact hx
    · cases hx
  · intro l T hx
    rw [look_view_hp] at hx
    split at hx
    · rename_i hs
      rw [← hl.hp l (ok_before hS hs)]
      exact hx
    · cases hx
/-- what is known later of what had come up before -/
theorem view_fwd {t : Tab} {i : Nat} {S : Nat → Bool} (h : RG F G (σ.view t S) a w) (hS : ∀ k, S k = true → k < i) (hl : Later t i σ σb) : RG F G (σb.view t S) a w := by
  refine h.weaken ?_ ?_ ?_ hl.fb hl.fl hl.nt
  · intro s x hx
    rw [look_view_tm] at hx
    split at hx
    · rename_i hs
      obtain ⟨y, h1, h2⟩ := hl.tm2 s x (ok_before hS hs) hx
      exact ⟨y, by rw [look_view_tm, if_pos hs]; exact h1, fun v => h2 w G v⟩
    · cases hx
  · intro s cs hx
    rw [look_view_bx] at hx ⊢
    split at hx
    · rename_i hs
      rw [if_pos hs, ← hl.bx s (ok_before hS hs)]
      exact hx
    · cases hx
  · intro l T hx
    rw [look_view_hp] at hx ⊢
    split at hx
    · rename_i hs
      rw [if_pos hs, ← hl.hp l (ok_before hS hs)]
      exact hx
    · cases hx
theorem view_congr {t : Tab} {S S' : Nat → Bool} (h : RG F G (σ.view t S) a w) (he : ∀ s, t.ok S' s = true → t.ok S s = true) : RG F G (σ.view t S') a w := by
  refine h.weaken ?_ ?_ ?_ rfl rfl rfl
  · intro s x hx
    rw [look_view_tm] at hx
    split at hx
    · rename_i hs; exact ⟨x, by rw [look_view_tm, if_pos (he s hs)]; exact hx, fun _ h => h⟩
    · cases hx
  · intro s cs hx
    rw [look_view_bx] at hx ⊢
    split at hx
    · rename_i hs; rw [if_pos (he s hs)]; exact hx
    · cases hx
  · intro l T hx
    rw [look_view_hp] at hx ⊢
    split at hx
    · rename_i hs; rw [if_pos (he _ hs)]; exact hx
    · cases hx
theorem view_fun {t : Tab} {S S' : Nat → Bool} (h : RG F G (σ.view t S) a w) (he : ∀ k, S' k = true → S k = true) : RG F G (σ.view t S') a w := view_congr h fun _ hs => ok_mono he hs
theorem view_all {n : Nat} (h : RG F G (σ.view (tabOf ops) (fun k => decide (k < ops.size))) a w) : RG F G σ a w := by
  have hk : ∀ s, (tabOf ops).ok (fun k => decide (k < ops.size)) s = true := by
    intro s
    unfold Tab.ok
    cases e : look (tabOf ops).ws s with
    | none => rfl
    | some k =>
      obtain ⟨o, ho, _⟩ := ws_ok e
      have := (Array.getElem?_eq_some_iff.1 ho).1
      simpa using this
  refine h.weaken ?_ ?_ ?_ rfl rfl rfl
  · intro s x hx; exact ⟨x, by rw [look_view_tm, if_pos (hk s)]; exact hx, fun _ h => h⟩
  · intro s cs hx; rw [look_view_bx, if_pos (hk s)]; exact hx
  · intro l T hx; rw [look_view_hp, if_pos (hk _)]; exact hx
/-- an operation of a commuting run, whenever it comes up -/
theorem class_op (hE : EOk P E) (hd : dirsOk ops = true) {k : Nat} {S : Nat → Bool} {σk σk1 : St} (hf : OpFact P E ops k σk σk1) (hl : Later (tabOf ops) (k + 1) σk1 σb) (hb : segOk (tabOf ops) σb = true) (hc : (tabOf ops).Closed S) (hS : S k = false)
    (hpre : ∀ j, (tabOf ops).bit k j = true → S j = true) (h : RG F G (σb.view (tabOf ops) S) a w) {Kx : Act → World → Prop} (hK : ∀ a' w' G', RG F G' (σb.view (tabOf ops) (fun j => S j || j == k)) a' w' → Kx a' w') :
    wpOp P ops Qx k Kx a w := by
  have hf0 := hf
  obtain ⟨o, σr, wanted, ho, hg, hcl, hh⟩ := hf
  have hmask : ∀ j, (tabOf ops).bit k j = true → j < k := fun j hj => bit_lt hd k j hj
  have lr : Later (tabOf ops) k σr σb := by
    have hd0 := fun d0 hd0 => (classOk_ok hcl d0 hd0).1
    rcases hh with ⟨_, σ', _, rfl⟩ | ⟨_, rfl⟩
    · exact (Later.merge hd0).trans (hl.mono (Nat.le_succ k))
    · exact (Later.merge hd0).trans (hl.mono (Nat.le_succ k))
  have lk : Later (tabOf ops) k σk σb := (Later.guard hg).trans lr
  have vk := view_back h hmask hpre lk
  have vr := view_back h hmask hpre lr
  have hw := hg.wanted_ok vk
  have hu : ∀ d, o.dst = some d → ∀ s, look (tabOf ops).ws s = some k → s = d := by
    intro d hd s hs
    obtain ⟨o', ho', hd'⟩ := ws_ok hs
    rw [ho] at ho'
    injection ho' with ho'
    subst ho'
    rw [hd] at hd'
    injection hd' with hd'
    exact hd'.symm
  have nob : ∀ d, o.dst = some d → ¬ Before (tabOf ops) k d ∧ Before (tabOf ops) (k + 1) d := by
    intro d hd
    have h1 := (classOk_ok hcl d hd).1
    exact ⟨fun hb => by have := hb k h1; omega, fun j hj => by rw [h1] at hj; injection hj with hj; omega⟩
  have dlt : ∀ d, o.dst = some d → d < a.tmps.size := by
    intro d hd
    have h1 := (classOk_ok hcl d hd).2
    have h2 : a.tmps.size = σk.nt := vk.nt
    exact h2 ▸ h1
  have noneOk : o.dst = none → ∀ s, (tabOf ops).ok (fun j => S j || j == k) s = true → (tabOf ops).ok S s = true := by
    intro hn s hs
    unfold Tab.ok at hs ⊢
    cases e : look (tabOf ops).ws s with
    | none => rfl
    | some j =>
      rw [e] at hs
      obtain ⟨o', ho', hd'⟩ := ws_ok e
      have : ¬ j = k := by
        intro ejk
        subst ejk
        rw [ho] at ho'
        injection ho' with ho'
        subst ho'
        rw [hn] at hd'
        cases hd'
      simpa [this] using hs
  unfold wpOp
  rw [ho]
  dsimp only
  rw [hw]
  have tmE : ∀ d (σ' : St), o.dst = some d → σk1 = σr.merge o.dst σ' → (∀ x, look σb.tm d = some x → Imp (σ'.get d) x) ∧ (∀ cs, look σb.bx d = some cs → look σ'.bx d = some cs) ∧ ∀ l T, l / 64 = d → look σb.hp l = some T → look σ'.hp l = some T := by
    intro d σ' hd he
    have hb1 := (nob d hd).2
    rw [hd] at he
    subst he
    refine ⟨fun x hx => ?_, fun cs hx => ?_, fun l T hld hx => ?_⟩
    · obtain ⟨y, h1, h2⟩ := hl.tm2 d x hb1 hx
      rw [merge_tm, if_pos rfl] at h1
      injection h1 with h1
      rw [h1]
      exact h2
    · rw [hl.bx d hb1, merge_bx, if_pos rfl] at hx
      exact hx
    · rw [hl.hp l (by rw [hld]; exact hb1), merge_hp, if_pos hld] at hx
      exact hx
  rcases hh with ⟨rfl, σ', hst, he⟩ | ⟨rfl, he⟩
  · simp only [if_true]
    refine .inl (Oper.wp_mono ?_ (step_ok (cls := true) hE vr hst))
    rintro a' w' ⟨σ'', G', hG', ⟨_, rfl⟩, hext⟩
    cases hdst : o.dst with
    | none =>
      obtain ⟨v, rfl⟩ := hext.act
      rw [hdst]
      refine hK _ _ G ?_
      exact view_congr (hext.world h) (noneOk hdst)
    | some d =>
      obtain ⟨v, rfl⟩ := hext.act
      rw [hdst] at hext hG' ⊢
      obtain ⟨e1, e2, e3⟩ := tmE d σ'' hdst he
      refine hK _ _ G' (merge_ok hc hS (classOk_ok hcl d hdst).1 (hu d hdst) hb h (dlt d hdst) hG' hext e1 e2 e3)
  · simp only [Bool.false_eq_true, if_false]
    cases hdst : o.dst with
    | none => exact hK _ _ G (view_congr h (noneOk hdst))
    | some d =>
      rw [hdst] at he
      obtain ⟨e1, e2, e3⟩ := tmE d (deadSt (some d) σr) hdst (by rw [hdst]; exact he)
      have hG' : RG F G (deadSt (some d) σr) (a.put (some d) undef) w := by
        have := (vr.skip (some d))
        refine this.weaken (fun s x hx => ?_) (fun s cs hx => by simp [deadSt, look] at hx) (fun l T hx => by simp [deadSt, look] at hx) rfl rfl rfl
        simp only [deadSt, look] at hx
        split at hx
        · rename_i e
          injection hx with hx
          subst hx
          refine ⟨skp, ?_, fun _ h => h⟩
          simp only [St.setTm, St.put, look_put, if_pos (beq_iff_eq.1 e)]
        · cases hx
      refine hK _ _ G (merge_ok hc hS (classOk_ok hcl d hdst).1 (hu d hdst) hb h (dlt d hdst) hG' .same e1 e2 e3)
/-- a call that moves a cursor: whatever comes later stands behind it -/
theorem semi_op (hE : EOk P E) (hd : dirsOk ops = true) {k : Nat} {S : Nat → Bool} {σk : St} (ho : ops[k]? = some o) (hcl : classOk (tabOf ops) k o σk = true) (hc : (tabOf ops).Closed S) (hS : S k = false) (hlt : ∀ j, S j = true → j < k)
    (hpre : ∀ j, (tabOf ops).bit k j = true → S j = true) (h : RG F G (σk.view (tabOf ops) S) a w) {f : St → Out} {X : St → St → Prop}
    (hf : ∀ σ1, (f σ1).holds Q → ∃ σb, X σ1 σb ∧ Later (tabOf ops) (k + 1) σ1 σb ∧ segOk (tabOf ops) σb = true)
    (hh : (guarded ops o σk (σk.view (tabOf ops) ((tabOf ops).bit k)) (fun σr => (step P E true o (σr.view (tabOf ops) ((tabOf ops).bit k)) (.st .normal)).bindL (fun σ' => f (σr.merge o.dst σ'))) (fun σr => f (σr.merge o.dst (deadSt o.dst σr)))).holds Q) {Kx : Act → World → Prop}
    (hK : ∀ σ1 σb a' w' G', X σ1 σb → Later (tabOf ops) k σk σ1 → Later (tabOf ops) (k + 1) σ1 σb → segOk (tabOf ops) σb = true → RG F G' (σb.view (tabOf ops) (fun j => S j || j == k)) a' w' → Kx a' w') :
    wpOp P ops Qx k Kx a w := by
  obtain ⟨σr, wanted, hg, hh⟩ := guarded_holds hh
  have hmask : ∀ j, (tabOf ops).bit k j = true → j < k := fun j hj => bit_lt hd k j hj
  have lg := Later.guard (i := k) hg
  have vk : RG F G (σk.view (tabOf ops) ((tabOf ops).bit k)) a w := view_fun h hpre
  have vr := view_back (σ := σr) (σb := σr) (i := k) (B := (tabOf ops).bit k) (S := S) (view_fwd h hlt lg) hmask hpre (Later.refl _ _ _)
  have hw := hg.wanted_ok vk
  have hd0 := fun d0 hd0 => (classOk_ok hcl d0 hd0).1
  have hu : ∀ d, o.dst = some d → ∀ s, look (tabOf ops).ws s = some k → s = d := by
    intro d hd s hs
    obtain ⟨o', ho', hd'⟩ := ws_ok hs
    rw [ho] at ho'
    injection ho' with ho'
    subst ho'
    rw [hd] at hd'
    injection hd' with hd'
    exact hd'.symm
  have nob : ∀ d, o.dst = some d → Before (tabOf ops) (k + 1) d := by
    intro d hd
    have h1 := hd0 d hd
    exact fun j hj => by rw [h1] at hj; injection hj with hj; omega
  have dlt : ∀ d, o.dst = some d → d < a.tmps.size := by
    intro d hd
    have h1 := (classOk_ok hcl d hd).2
    have h2 : a.tmps.size = σk.nt := vk.nt
    exact h2 ▸ h1
  have noneOk : o.dst = none → ∀ s, (tabOf ops).ok (fun j => S j || j == k) s = true → (tabOf ops).ok S s = true := by
    intro hn s hs
    unfold Tab.ok at hs ⊢
    cases e : look (tabOf ops).ws s with
    | none => rfl
    | some j =>
      rw [e] at hs
      obtain ⟨o', ho', hd'⟩ := ws_ok e
      have : ¬ j = k := by
        intro ejk
        subst ejk
        rw [ho] at ho'
        injection ho' with ho'
        subst ho'
        rw [hn] at hd'
        cases hd'
      simpa [this] using hs
  have fin : ∀ (σ' : St) (G' : Gh) (a' : Act) (w' : World), (f (σr.merge o.dst σ')).holds Q → RG F G' σ' a' w' → (∃ v, a' = a.put o.dst v) → Ext o.dst G a w G' a' w' → Kx a' w' := by
    intro σ' G' a' w' hq hG' hv hext
    obtain ⟨v, rfl⟩ := hv
    obtain ⟨σb, hX, hl, hb⟩ := hf _ hq
    have lm : Later (tabOf ops) k σk (σr.merge o.dst σ') := lg.trans (Later.merge hd0)
    have lb : Later (tabOf ops) k σk σb := lm.trans (hl.mono (Nat.le_succ k))
    have hv2 := view_fwd h hlt lb
    cases hdst : o.dst with
    | none =>
      rw [hdst] at hext
      refine hK _ σb _ _ G (by rw [hdst] at hX; exact hX) (by rw [hdst] at lm; exact lm) (by rw [hdst] at hl; exact hl) hb ?_
      exact view_congr (hext.world hv2) (noneOk hdst)
    | some d =>
      have hb1 := nob d hdst
      rw [hdst] at hext hG' hX lm hl
      refine hK _ σb _ _ G' hX lm hl hb (merge_ok hc hS (hd0 d hdst) (hu d hdst) hb hv2 (dlt d hdst) hG' hext ?_ ?_ ?_)
      · intro x hx
        obtain ⟨y, h1, h2⟩ := hl.tm2 d x hb1 hx
        rw [merge_tm, if_pos rfl] at h1
        injection h1 with h1
        rw [h1]
        exact h2
      · intro cs hx
        rw [hl.bx d hb1, merge_bx, if_pos rfl] at hx
        exact hx
      · intro l T hld hx
        rw [hl.hp l (by rw [hld]; exact hb1), merge_hp, if_pos hld] at hx
        exact hx
  unfold wpOp
  rw [ho]
  dsimp only
  rw [hw]
  cases wanted with
  | true =>
    simp only [if_true] at hh ⊢
    refine .inl (Oper.wp_mono ?_ (step_ok (cls := true) hE vr (Out.bindL_holds hh)))
    rintro a' w' ⟨σ'', G', hG', ⟨_, hq⟩, hext⟩
    exact fin σ'' G' a' w' hq hG' hext.act hext
  | false =>
    simp only [Bool.false_eq_true, if_false] at hh ⊢
    refine fin (deadSt o.dst σr) G _ w hh ?_ ⟨_, rfl⟩ .same
    have := (vr.skip o.dst)
    refine this.weaken (fun s x hx => ?_) (fun s cs hx => by simp [deadSt, look] at hx) (fun l T hx => by simp [deadSt, look] at hx) ?_ ?_ ?_
    · cases hdst : o.dst with
      | none => rw [hdst] at hx; simp [deadSt, look] at hx
      | some d =>
        rw [hdst] at hx
        simp only [deadSt, look] at hx
        split at hx
        · rename_i e
          injection hx with hx
          subst hx
          refine ⟨skp, ?_, fun _ h => h⟩
          simp only [St.setTm, St.put, look_put, if_pos (beq_iff_eq.1 e)]
        · cases hx
    all_goals (cases o.dst <;> rfl)
/-- how many have not come up -/
def unl (S : Nat → Bool) : Nat → Nat
  | 0 => 0
  | n + 1 => unl S n + (if S n then 0 else 1)
theorem unl_zero {S : Nat → Bool} : ∀ {n : Nat}, unl S n = 0 → ∀ k, k < n → S k = true := by
  intro n
  induction n with
  | zero => intro _ k hk; omega
  | succ n ih =>
    intro h k hk
    simp only [unl] at h
    by_cases e : k = n
    · subst e
      cases hs : S k with
      | true => rfl
      | false => simp [hs] at h
    · exact ih (by omega) k (by omega)
theorem unl_add {S : Nat → Bool} {i : Nat} (hS : S i = false) : ∀ {n : Nat}, (n ≤ i → unl (fun k => S k || k == i) n = unl S n) ∧ (i < n → unl (fun k => S k || k == i) n + 1 = unl S n) := by
  intro n
  induction n with
  | zero => exact ⟨fun _ => rfl, fun h => by omega⟩
  | succ n ih =>
    refine ⟨fun h => ?_, fun h => ?_⟩
    · have := ih.1 (by omega)
      have hne : ¬ n = i := by omega
      simp [unl, this, hne]
    · by_cases e : n = i
      · subst e
        have := ih.1 (Nat.le_refl _)
        simp [unl, this, hS]
      · have := ih.2 (by omega)
        simp only [unl, e, beq_iff_eq, Bool.or_eq_true, or_false]
        omega
theorem cut_bits {t : Tab} {b : Nat} (hc : cutOk t b = true) {k : Nat} (hk : k < t.n) : (k < b → t.bit b k = true) ∧ (b < k → t.bit k b = true) := by
  unfold cutOk at hc
  rw [List.all_eq_true] at hc
  have := hc k (List.mem_range.2 hk)
  refine ⟨fun h => ?_, fun h => ?_⟩
  · have h1 : (k == b) = false := by simp; omega
    simpa [h1, h] using this
  · have h1 : (k == b) = false := by simp; omega
    have h2 : ¬ k < b := by omega
    simpa [h1, h2] using this
/-- THE REGION, IN EVERY ORDER -/
theorem evR_ok (hE : EOk P E) (hd : dirsOk ops = true) : ∀ (f b : Nat) (σb : St) (G : Gh) (a : Act) (w : World) (listed : Array Bool), listed.size = ops.size → (∀ k, k < b → listed.getD k false = false → ∃ σk σk1, OpFact P E ops k σk σk1 ∧ Later (tabOf ops) (k + 1) σk1 σb) → b ≤ ops.size →
    (∀ k, k < b → listed.getD k false = false → segOk (tabOf ops) σb = true) → TailFact P E ops K Q ops.size b σb →
    RG F G (σb.view (tabOf ops) (fun k => listed.getD k false)) a w → (tabOf ops).Closed (fun k => listed.getD k false) → (∀ k, b ≤ k → listed.getD k false = false) → unl (fun k => listed.getD k false) ops.size ≤ f →
    wpAny P .any ops (fun e a w => e = .normal ∧ Cont F K Q a w) f listed a w := by
  intro f
  induction f with
  | zero =>
    intro b σb G a w listed hsz hops hb hok htail h hc hbk hu
    have hall := unl_zero (Nat.le_zero.1 hu)
    have hbn : b = ops.size := by
      rcases Nat.lt_or_ge b ops.size with hlt | hge
      · have := hall b hlt; rw [hbk b (Nat.le_refl _)] at this; cases this
      · omega
    refine ⟨?_, rfl, ?_⟩
    · refine List.eq_nil_iff_forall_not_mem.2 fun x hx => ?_
      obtain ⟨o, ho, hx1, _⟩ := (ready_ok hsz).1 hx
      rw [hall x (Array.getElem?_eq_some_iff.1 ho).1] at hx1
      cases hx1
    · rcases htail with ⟨_, hh⟩ | ⟨hlt, _⟩ | ⟨hlt, _⟩
      · exact ⟨σb, ⟨G, view_all (n := ops.size) (view_fun h fun k hk => hall k (by simpa using hk))⟩, hh⟩
      · omega
      · omega
  | succ f ih =>
    intro b σb G a w listed hsz hops hb hok htail h hc hbk hu
    have hdir : ∀ k o, ops[k]? = some o → (∀ j ∈ dirs o, listed.getD j false = true) → ∀ j, (tabOf ops).bit k j = true → listed.getD j false = true := by
      intro k o ho hj j hb
      obtain ⟨e, he, hh⟩ := bit_ok ho hb
      rcases hh with rfl | hh
      · exact hj _ he
      · exact hc e (hj e he) j hh
    constructor
    · intro hnil
      -- nothing is ready: all have come up
      have hall : ∀ k, k < ops.size → listed.getD k false = true := by
        intro k
        induction k using Nat.strongRecOn with
        | ind k ihk =>
          intro hk
          cases hl : listed.getD k false with
          | true => rfl
          | false =>
            have : k ∈ Region.ready .any ops listed := (ready_ok hsz).2 ⟨ops[k], by simp [hk], hl, fun j hj => by
              have hjk : j < k := by
                unfold dirsOk at hd
                rw [List.all_eq_true] at hd
                have := hd (ops[k], k) (by rw [List.mem_zipIdx_iff_getElem?]; simp [hk])
                rw [List.all_eq_true] at this
                simpa using this j hj
              exact ihk j hjk (by omega)⟩
            rw [hnil] at this
            cases this
      have hbn : b = ops.size := by
        rcases Nat.lt_or_ge b ops.size with hlt | hge
        · have := hall b hlt; rw [hbk b (Nat.le_refl _)] at this; cases this
        · omega
      refine ⟨rfl, ?_⟩
      rcases htail with ⟨_, hh⟩ | ⟨hlt, _⟩ | ⟨hlt, _⟩
      · exact ⟨σb, ⟨G, view_all (n := ops.size) (view_fun h fun k hk => hall k (by simpa using hk))⟩, hh⟩
      · omega
      · omega
    · intro k hk
      obtain ⟨o, ho, hkl, hkd⟩ := (ready_ok hsz).1 hk
      have hkn : k < ops.size := (Array.getElem?_eq_some_iff.1 ho).1
      have hpre := hdir k o ho hkd
      have hget : ∀ j, (listed.setIfInBounds k true).getD j false = (listed.getD j false || j == k) := fun j => getD_set (by omega)
      have hget' : (fun j => (listed.setIfInBounds k true).getD j false) = fun j => listed.getD j false || j == k := funext hget
      have hold : ∀ j, (listed.setIfInBounds k true).getD j false = false → listed.getD j false = false ∧ j ≠ k := by
        intro j hj
        rw [hget, Bool.or_eq_false_iff] at hj
        exact ⟨hj.1, by simpa using hj.2⟩
      have hu' : unl (fun j => (listed.setIfInBounds k true).getD j false) ops.size ≤ f := by
        rw [hget']
        have := (unl_add (S := fun j => listed.getD j false) hkl (n := ops.size)).2 hkn
        omega
      have hcl' : (tabOf ops).Closed fun j => (listed.setIfInBounds k true).getD j false := by
        rw [hget']
        exact closed_add _ hc hpre
      by_cases hkb : k < b
      · obtain ⟨σk, σk1, hf, hl⟩ := hops k hkb hkl
        refine class_op hE hd hf hl (hok k hkb hkl) hc hkl hpre h fun a' w' G' h' => ?_
        refine ih b σb G' a' w' _ (by simp [hsz]) (fun j hj hj2 => hops j hj (hold j hj2).1) hb (fun j hj hj2 => hok j hj (hold j hj2).1) htail (by rw [hget']; exact h') hcl' (fun j hj => ?_) hu'
        rw [hget, hbk j hj]
        have : ¬ j = k := by omega
        simpa using this
      · rcases htail with ⟨hbn, _⟩ | ⟨hbn, ob, hob, hcut, hh⟩ | ⟨hbn, ob, hob, hsemi, hcls, hh⟩
        · omega
        · -- the operation that must stand alone
          have hkb' : k = b := by
            rcases Nat.lt_or_ge b k with hlt | hge
            · have := hpre b ((cut_bits hcut (show k < (tabOf ops).n from hkn)).2 hlt)
              rw [hbk b (Nat.le_refl _)] at this
              cases this
            · omega
          subst hkb'
          rw [ho] at hob
          injection hob with hob
          subst hob
          have hall : ∀ j, listed.getD j false = decide (j < k) := by
            intro j
            by_cases hj : j < k
            · rw [hpre j ((cut_bits hcut (show j < (tabOf ops).n from (by show j < ops.size; omega))).1 hj)]; simp [hj]
            · rw [hbk j (by omega)]; simp [hj]
          have hv : RG F G (σb.view (tabOf ops) ((tabOf ops).bit k)) a w := view_fun h fun j hj => hpre j hj
          obtain ⟨σr, wanted, hg, hh⟩ := guarded_holds hh
          have hw := hg.wanted_ok hv
          have hr := hg.retold hv hv
          -- the rest of the region, from a new start
          have next : ∀ (σ' : St) (G' : Gh) (a' : Act) (w' : World), RG F G' σ' a' w' → (evR P E ops (tabOf ops) true (List.range' (k + 1) (ops.size - (k + 1))) σ' K).holds Q → wpAny P .any ops (fun e a w => e = .normal ∧ Cont F K Q a w) f (listed.setIfInBounds k true) a' w' := by
            intro σ' G' a' w' h' hh'
            obtain ⟨b', σb', k1, k2, k3, k4⟩ := evR_plan (ops.size - (k + 1)) (k + 1) true σ' hh'
            rw [show k + 1 + (ops.size - (k + 1)) = ops.size from by omega] at k2 k4
            obtain ⟨l1, l2, l3⟩ := k1.later
            have hS : ∀ j, (listed.setIfInBounds k true).getD j false = decide (j < k + 1) := by
              intro j
              rw [hget, hall]
              by_cases h1 : j < k
              · simp [h1, show j < k + 1 from by omega]
              · by_cases h2 : j = k
                · simp [h2]
                · simp [h1, h2, show ¬ j < k + 1 from by omega]
            have hge : ∀ j, (listed.setIfInBounds k true).getD j false = false → k + 1 ≤ j := by
              intro j hj
              rw [hS] at hj
              simpa using hj
            refine ih b' σb' G' a' w' _ (by simp [hsz]) (fun j hj hj2 => l3 j (hge j hj2) hj) k2 (fun j hj hj2 => k3.resolve_right (by have := hge j hj2; omega)) k4 (view_start h' (fun j hj => ?_) l2) hcl' (fun j hj => by rw [hS]; simp; omega) hu'
            have := hS j
            rw [this] at hj
            simpa using hj
          unfold wpOp
          rw [ho]
          dsimp only
          rw [hw]
          cases wanted with
          | true =>
            simp only [if_true] at hh ⊢
            obtain ⟨G2, hr2⟩ := lits_ok hr
            exact .inl (Oper.wp_mono (fun a1 w1 ⟨σ1, ⟨G1, h1⟩, hh1⟩ => next σ1 G1 a1 w1 h1 hh1) (step_ok (cls := false) hE hr2 hh))
          | false =>
            simp only [Bool.false_eq_true, if_false] at hh ⊢
            exact next _ G _ w (hr.skip o.dst) hh
        · -- a cursor's call: all that comes later stands behind it
          have hkb' : k = b := by
            rcases Nat.lt_or_ge b k with hlt | hge
            · have hb2 : (tabOf ops).bit k b = true := by
                unfold semi at hsemi
                rw [List.all_eq_true] at hsemi
                have := hsemi k (List.mem_range.2 (show k < (tabOf ops).n from hkn))
                have h2 : ¬ k ≤ b := by omega
                simpa [h2] using this
              have := hpre b hb2
              rw [hbk b (Nat.le_refl _)] at this
              cases this
            · omega
          subst hkb'
          rw [ho] at hob
          injection hob with hob
          subst hob
          have hlt : ∀ j, listed.getD j false = true → j < k := by
            intro j hj
            rcases Nat.lt_or_ge j k with h1 | h1
            · exact h1
            · rw [hbk j h1] at hj; cases hj
          refine semi_op hE hd ho hcls hc hkl hlt hpre h (f := fun σ1 => evR P E ops (tabOf ops) false (List.range' (k + 1) (ops.size - (k + 1))) σ1 K) (X := fun σ1 σb' => ∃ b', Seg P E ops (k + 1) σ1 b' σb' ∧ b' ≤ ops.size ∧ TailFact P E ops K Q ops.size b' σb') (fun σ1 hq => ?_) hh ?_
          · obtain ⟨b', σb', k1, k2, k3, k4⟩ := evR_plan (ops.size - (k + 1)) (k + 1) false σ1 hq
            rw [show k + 1 + (ops.size - (k + 1)) = ops.size from by omega] at k2 k4
            exact ⟨σb', ⟨b', k1, k2, k4⟩, k1.later.2.1, k3.resolve_right (by simp)⟩
          · intro σ1 σb' a' w' G' ⟨b', k1, k2, k4⟩ l1 l2 hs2 h'
            obtain ⟨m1, _, m3⟩ := k1.later
            refine ih b' σb' G' a' w' _ (by simp [hsz]) (fun j hj hj2 => ?_) k2 (fun j hj hj2 => hs2) k4 (by rw [hget']; exact h') hcl' (fun j hj => ?_) hu'
            · obtain ⟨hj3, hne⟩ := hold j hj2
              rcases Nat.lt_or_ge j k with h1 | h1
              · obtain ⟨σj, σj1, hf, hl⟩ := hops j h1 hj3
                exact ⟨σj, σj1, hf, hl.trans ((l1.trans (l2.mono (Nat.le_succ k))).mono (by omega))⟩
              · exact m3 j (by omega) hj
            · rw [hget, hbk j (by omega)]
              have : ¬ j = k := by omega
              simpa using this
def TV.weak : TV → TV
  | .capd l _ => .v false [.ref l]
  | x => x
def St.weak (σ : St) : St := σ.map id TV.weak
theorem RG.weak (h : RG F G σ a w) : RG F G σ.weak a w := h.map (fun _ _ h => h) (fun x v h => by
  cases x <;> first | exact h | exact ⟨_, rfl, h.1⟩)
/-- a region that draws its order -/
def evDraw0 (P : Program) (E : Env) (ops : Array Oper) (σ : St) (K : St → Out) : Out :=
  bif P.follows .mixedOrders && dirsOk ops then evR P E ops (tabOf ops) true (List.range' 0 ops.size) σ (fun σ' => K σ'.weak.lits) else .bad
theorem evDraw_any (hE : EOk P E) (h : RG F G σ a w) (hh : (evDraw0 P E ops σ K).holds Q) : P.follows .mixedOrders = true ∧ wpAny P .any ops (fun e a w => e = .normal ∧ Cont F (fun σ' => K σ'.weak.lits) Q a w) ops.size (Array.replicate ops.size false) a { w with drawn := w.drawn + 1 } := by
  unfold evDraw0 at hh
  cases hc : (P.follows .mixedOrders && dirsOk ops) with
  | false => simp [hc, Out.holds] at hh
  | true =>
    simp only [hc, cond_true] at hh
    rw [Bool.and_eq_true] at hc
    obtain ⟨b, σb, k1, k2, k3, k4⟩ := evR_plan ops.size 0 true σ hh
    rw [Nat.zero_add] at k2 k4
    have h0 : RG F G σ a { w with drawn := w.drawn + 1 } := h.world ⟨rfl, rfl, ⟨rfl, by first | exact Nat.le_refl _ | exact Nat.le_succ _⟩, Nat.le_refl _⟩ fun _ _ => rfl
    have hf : ∀ k, (Array.replicate ops.size false).getD k false = false := fun k => by
      by_cases hk : k < ops.size <;> simp [hk]
    refine ⟨hc.1, evR_ok (K := fun σ' => K σ'.weak.lits) hE hc.2 ops.size b σb G a _ _ (by simp) (fun k hk _ => k1.later.2.2 k (Nat.zero_le _) hk) k2 (fun k hk _ => k3.resolve_right (by omega)) k4 (view_start h0 (fun k hk => by rw [hf] at hk; cases hk) k1.later.2.1) (fun k hk => by simp only [hf] at hk; cases hk) (fun k _ => hf k) ?_⟩
    have : ∀ n, unl (fun k => (Array.replicate ops.size false).getD k false) n ≤ n := by
      intro n
      induction n with
      | zero => exact Nat.le_refl _
      | succ n ih => simp only [unl]; split <;> omega
    exact this _
def isCurMd : Md → Bool
  | .cur => true
  | _ => false
/-- does the operation move a cursor? -/
def movesCur (E : Env) (o : Oper) : Bool := match o.op with
  | .call c => match c.callee with
    | .value (.func g) => match E.fn g with
      | some (ms, _) => ms.any isCurMd
      | none => false
    | _ => false
  | _ => false
/-- an order in which whatever comes behind a cursor's call depends on it -/
def ordOf (E : Env) (ops : Array Oper) : Option (List Nat) :=
  match (List.range ops.size).filter fun i => movesCur E (ops.getD i default) with
  | [] => none
  | cs => some ((List.range (2 * cs.length + 2)).flatMap fun key => (List.range ops.size).filter fun k => key == 2 * (cs.filter fun i => (tabOf ops).bit k i).length + (bif cs.contains k then 1 else 0))
def evDraw1 (P : Program) (E : Env) (ops : Array Oper) (σ : St) (K : St → Out) : Out :=
  match ordOf E ops with
  | none => evDraw0 P E ops σ K
  | some ord => bif permOk ops.size ord then evDraw0 P E (permOps ops ord) σ K else .bad
theorem evDraw1_ok (hE : EOk P E) (h : RG F G σ a w) (hh : (evDraw1 P E ops σ K).holds Q) : P.follows .mixedOrders = true ∧
    wpAny P .any ops (fun e a w => e = .normal ∧ Cont F (fun σ' => K σ'.weak.lits) Q a w) ops.size (Array.replicate ops.size false) a { w with drawn := w.drawn + 1 } := by
  unfold evDraw1 at hh
  split at hh
  · exact evDraw_any hE h hh
  · rename_i ord _
    cases hp : permOk ops.size ord with
    | false => rw [hp] at hh; exact hh.elim
    | true =>
      rw [hp, cond_true] at hh
      obtain ⟨h1, h2⟩ := evDraw_any hE h hh
      rw [perm_size hp] at h2
      exact ⟨h1, wpAny_perm hp _ _ _ _ _ (by simp) (by simp) (fun j => by
        have : ∀ k, (Array.replicate ops.size false).getD k false = false := fun k => by
          by_cases hk : k < ops.size <;> simp [hk]
        rw [this, this]) h2⟩
end
end Go.D
