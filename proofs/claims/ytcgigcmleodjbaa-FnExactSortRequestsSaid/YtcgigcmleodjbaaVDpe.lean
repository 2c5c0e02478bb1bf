/-
  A region with edges added: a plain operation that nothing later looks at may be taken ahead of an assignment.
-/
import Derived.Test.YtcgigcmleodjbaaVDu
import Derived.Test.YtcgigcmleodjbaaVDpm
namespace Go.D
set_option linter.unusedVariables false
section
variable {P : Program} {ops : Array Oper} {Q : Exit → Act → World → Prop}
theorem getD_set {l : Array Bool} {i k : Nat} (hi : i < l.size) : (l.setIfInBounds i true).getD k false = (l.getD k false || k == i) := by
  by_cases e : k = i
  · subst e; simp [hi]
  · have h1 : ¬ i = k := fun h => e h.symm
    simp [h1, e]
theorem ready_ok {listed : Array Bool} (hsz : listed.size = ops.size) {i : Nat} : i ∈ Region.ready .any ops listed ↔ ∃ o, ops[i]? = some o ∧ listed.getD i false = false ∧ ∀ j ∈ dirs o, listed.getD j false = true := by
  unfold Region.ready
  rw [List.mem_filter, List.mem_range]
  have hg : i < ops.size → (listed.getD i true = listed.getD i false) := by
    intro h
    simp [hsz, h]
  constructor
  · rintro ⟨h1, h2⟩
    simp only [Bool.and_eq_true, Bool.not_eq_true'] at h2
    obtain ⟨h2, h3⟩ := h2
    refine ⟨ops[i], by simp [h1], by rw [← hg h1]; exact h2, fun j hj => ?_⟩
    simp only [Array.getElem?_eq_getElem h1, Option.map_some, Option.getD_some, Array.all_eq_true'] at h3
    unfold dirs at hj
    rw [List.mem_map] at hj
    obtain ⟨e, he, rfl⟩ := hj
    rw [List.mem_filter] at he
    have := h3 e (by simpa using he.1)
    simpa [he.2] using this
  · rintro ⟨o, ho, h2, h3⟩
    have h1 := (Array.getElem?_eq_some_iff.1 ho).1
    refine ⟨h1, ?_⟩
    rw [Bool.and_eq_true, Bool.not_eq_true']
    refine ⟨by rw [hg h1]; exact h2, ?_⟩
    rw [ho]
    simp only [Option.map_some, Option.getD_some, Array.all_eq_true']
    intro e he
    cases hb : Region.binds .any e with
    | false => rfl
    | true =>
      have := h3 e.on (List.mem_map.2 ⟨e, List.mem_filter.2 ⟨by simpa using he, hb⟩, rfl⟩)
      simpa using this
theorem closed_add (t : Tab) {S : Nat → Bool} {i : Nat} (hc : t.Closed S) (hi : ∀ j, t.bit i j = true → S j = true) : t.Closed (fun k => S k || k == i) := by
  intro k hk j hj
  simp only [Bool.or_eq_true, beq_iff_eq] at hk ⊢
  rcases hk with hk | rfl
  · exact .inl (hc k hk j hj)
  · exact .inl (hi j hj)
def addE (ops : Array Oper) (i k : Nat) : Array Oper := ops.modify i fun o => { o with after := o.after.push ⟨k, .phase⟩ }
def padOk (ops : Array Oper) (i k : Nat) : Bool := match ops[i]?, ops[k]? with
  | some oi, some ok => Region.noSelect ops && !(i == k) && ok.guard.isNone && (match ok.op with | .extract _ _ => true | .move _ => true | _ => false) &&
    (dirs ok).all (fun e => (tabOf ops).bit i e) && (List.range ops.size).all fun j => j == k || ((tabOf ops).bit k j || match ops[j]? with
      | some oj => oj.after.any (fun e => Region.binds .any e && e.on == k) || ok.apart ops oj
      | none => true)
  | _, _ => false
def padGo (ops : Array Oper) : List (Nat × Nat) → Array Oper
  | [] => ops
  | (i, k) :: r => bif padOk ops i k then padGo (addE ops i k) r else padGo ops r
def isAsg (o : Oper) : Bool := match o.op with
  | .assign _ => true
  | _ => false
def isExt (o : Oper) : Bool := match o.op with
  | .extract _ _ => true
  | _ => false
def isMv (o : Oper) : Bool := match o.op with
  | .move _ => true
  | _ => false
def isSt (o : Oper) : Bool := match o.op with
  | .store _ _ _ => true
  | _ => false
/-- assignments and the extracts that nothing orders with them; stores and such moves and extracts -/
def pairsOf (ops : Array Oper) : List (Nat × Nat) :=
  (ops.toList.zipIdx.filter fun x => isAsg x.1 || isSt x.1).flatMap fun x => (ops.toList.zipIdx.filter fun y => (isExt y.1 || isSt x.1 && isMv y.1) && decide (y.2 < x.2) && !(tabOf ops).bit x.2 y.2).map fun y => (x.2, y.2)
theorem addE_size (i k : Nat) : (addE ops i k).size = ops.size := by simp [addE]
theorem padGo_size : ∀ (ps : List (Nat × Nat)) (ops : Array Oper), (padGo ops ps).size = ops.size
  | [], _ => rfl
  | (i, k) :: r, ops => by
    unfold padGo
    cases padOk ops i k
    · exact padGo_size r ops
    · exact (padGo_size r _).trans (addE_size i k)
theorem addE_get {i k j : Nat} {o : Oper} (h : ops[j]? = some o) : (addE ops i k)[j]? = some (if j = i then { o with after := o.after.push ⟨k, .phase⟩ } else o) := by
  unfold addE
  rw [Array.getElem?_modify, h]
  by_cases e : i = j
  · subst e; simp
  · simp [e, Ne.symm e]
theorem addE_none {i k j : Nat} (h : ops[j]? = none) : (addE ops i k)[j]? = none := by
  unfold addE
  rw [Array.getElem?_modify, h]
  split <;> rfl
theorem addE_dst (i k j : Nat) : ((addE ops i k)[j]?).bind (·.dst) = (ops[j]?).bind (·.dst) := by
  cases h : ops[j]? with
  | none => rw [addE_none h]
  | some o => rw [addE_get h]; split <;> rfl
theorem addE_yielded (i k : Nat) (tmps : Array Value) : yielded (addE ops i k) tmps = yielded ops tmps := by
  funext j
  unfold yielded
  rw [addE_dst]
theorem addE_wpOp {i k j : Nat} {K : Act → World → Prop} {a : Act} {w : World} (h : wpOp P (addE ops i k) Q j K a w) : wpOp P ops Q j K a w := by
  unfold wpOp at *
  cases ho : ops[j]? with
  | none => rw [addE_none ho] at h; exact h
  | some o =>
    rw [addE_get ho] at h
    dsimp only at h ⊢
    rw [addE_yielded] at h
    by_cases e : j = i
    · simp only [e, if_true] at h; exact h
    · simp only [e, if_false] at h; exact h
theorem dirs_addE {o : Oper} {k : Nat} {j : Nat} : j ∈ dirs { o with after := o.after.push ⟨k, .phase⟩ } ↔ j ∈ dirs o ∨ j = k := by
  unfold dirs
  simp only [Array.toList_push, List.filter_append, List.map_append, List.mem_append]
  have : Region.binds .any ⟨k, .phase⟩ = true := rfl
  simp [this]
theorem ext_runs (tv : Value) (ix : Nat) : (∃ v, Instr.extract tv ix = pure v) ∨ ∃ s, Instr.extract tv ix = stuck s := by
  unfold Instr.extract
  split
  · split
    · exact .inl ⟨_, rfl⟩
    · exact .inr ⟨_, rfl⟩
  · exact .inr ⟨_, rfl⟩
theorem wpAny_edge {i k : Nat} (hpad : padOk ops i k = true) (hN : ∀ e a w, Q e a w → e = .normal) : ∀ (f : Nat) (listed : Array Bool) (a : Act) (w : World), listed.size = ops.size → (tabOf ops).Closed (fun j => listed.getD j false) →
    wpAny P .any (addE ops i k) Q f listed a w → wpAny P .any ops Q f listed a w := by
  unfold padOk at hpad
  split at hpad
  · rename_i oi ok hoi hok
    simp only [Bool.and_eq_true, Bool.not_eq_true', beq_eq_false_iff_ne, ne_eq] at hpad
    obtain ⟨⟨⟨⟨⟨hsel, hik⟩, hgk⟩, hek⟩, hdk⟩, hap⟩ := hpad
    rw [List.all_eq_true] at hdk hap
    have hlet : ¬ LetsOut Q := fun ⟨a, w, h⟩ => by cases hN _ _ _ h
    have hsub : ∀ (listed : Array Bool), listed.size = ops.size → ∀ j, j ∈ Region.ready .any (addE ops i k) listed ↔ (j ∈ Region.ready .any ops listed ∧ (j = i → listed.getD k false = true)) := by
      intro listed hs j
      rw [ready_ok (ops := addE ops i k) (by rw [addE_size, hs]), ready_ok hs]
      constructor
      · rintro ⟨o, ho, h1, h2⟩
        cases hoj : ops[j]? with
        | none => rw [addE_none hoj] at ho; cases ho
        | some o' =>
          rw [addE_get hoj] at ho
          injection ho with ho
          by_cases e : j = i
          · rw [if_pos e] at ho
            subst ho
            exact ⟨⟨o', rfl, h1, fun x hx => h2 x (dirs_addE.2 (.inl hx))⟩, fun _ => h2 k (dirs_addE.2 (.inr rfl))⟩
          · rw [if_neg e] at ho
            subst ho
            exact ⟨⟨o', rfl, h1, h2⟩, fun e2 => absurd e2 e⟩
      · rintro ⟨⟨o, ho, h1, h2⟩, h3⟩
        refine ⟨_, addE_get ho, h1, fun x hx => ?_⟩
        by_cases e : j = i
        · rw [if_pos e] at hx
          rcases dirs_addE.1 hx with hx | hx
          · exact h2 x hx
          · rw [hx]; exact h3 e
        · rw [if_neg e] at hx; exact h2 x hx
    have hclo : ∀ (listed : Array Bool) (j : Nat) (o : Oper), listed.size = ops.size → (tabOf ops).Closed (fun j => listed.getD j false) → ops[j]? = some o → (∀ x ∈ dirs o, listed.getD x false = true) → ∀ x, (tabOf ops).bit j x = true → listed.getD x false = true := by
      intro listed j o hs hc ho hd x hb
      obtain ⟨e, he, hh⟩ := bit_ok ho hb
      rcases hh with rfl | hh
      · exact hd _ he
      · exact hc e (hd e he) x hh
    intro f
    induction f using Nat.strongRecOn with
    | ind f ih =>
      intro listed a w hs hc h
      have next : ∀ (g : Nat) (j : Nat) (o : Oper) (a : Act) (w : World), g < f → ops[j]? = some o → (∀ x ∈ dirs o, listed.getD x false = true) → wpAny P .any (addE ops i k) Q g (listed.setIfInBounds j true) a w → wpAny P .any ops Q g (listed.setIfInBounds j true) a w := by
        intro g j o a w hg ho hd hh
        refine ih g hg _ a w (by simp [hs]) ?_ hh
        have hj : j < listed.size := by rw [hs]; exact (Array.getElem?_eq_some_iff.1 ho).1
        rw [show (fun x => (listed.setIfInBounds j true).getD x false) = fun x => listed.getD x false || x == j from funext fun x => getD_set hj]
        exact closed_add _ hc (hclo listed j o hs hc ho hd)
      cases f with
      | zero =>
        refine ⟨?_, h.2⟩
        have h0 := h.1
        refine List.eq_nil_iff_forall_not_mem.2 fun j hj => ?_
        have hk0 : ∀ j, j ∉ Region.ready .any (addE ops i k) listed := fun j => by rw [h0]; simp
        by_cases e : j = i ∧ listed.getD k false = false
        · obtain ⟨e1, e2⟩ := e
          subst e1
          obtain ⟨o, ho, h1, h2⟩ := (ready_ok hs).1 hj
          refine hk0 k ((hsub listed hs k).2 ⟨(ready_ok hs).2 ⟨ok, hok, e2, fun x hx => hclo listed j o hs hc ho h2 x (hdk x hx)⟩, fun e => absurd e.symm hik⟩)
        · refine hk0 j ((hsub listed hs j).2 ⟨hj, fun e1 => ?_⟩)
          cases e2 : listed.getD k false with
          | true => rfl
          | false => exact absurd ⟨e1, e2⟩ e
      | succ f =>
        refine ⟨fun hr => h.1 ?_, fun j hj => ?_⟩
        · refine List.eq_nil_iff_forall_not_mem.2 fun j hj => ?_
          have := ((hsub listed hs j).1 hj).1
          rw [hr] at this
          cases this
        · obtain ⟨o, ho, h1, h2⟩ := (ready_ok hs).1 hj
          by_cases e : j = i ∧ listed.getD k false = false
          · obtain ⟨e1, e2⟩ := e
            subst e1
            rw [ho] at hoi
            injection hoi with hoi
            subst hoi
            have hkr : k ∈ Region.ready .any (addE ops j k) listed := (hsub listed hs k).2 ⟨(ready_ok hs).2 ⟨ok, hok, e2, fun x hx => hclo listed j o hs hc ho h2 x (hdk x hx)⟩, fun e => absurd e.symm hik⟩
            have hkd : ∀ x ∈ dirs ok, listed.getD x false = true := fun x hx => hclo listed j o hs hc ho h2 x (hdk x hx)
            have hk1 := addE_wpOp (h.2 k hkr)
            have hapj : ok.apart ops o = true := by
              have := hap j (List.mem_range.2 (Array.getElem?_eq_some_iff.1 ho).1)
              rw [ho] at this
              simp only [Bool.or_eq_true, beq_iff_eq] at this
              rcases this with h3 | h3 | h3 | h3
              · exact absurd h3 hik
              · have := hclo listed k ok hs hc hok hkd j h3
                rw [h1] at this; cases this
              · obtain ⟨e, he, hb⟩ := Array.any_eq_true'.1 h3
                simp only [Bool.and_eq_true, beq_iff_eq] at hb
                have := h2 k (List.mem_map.2 ⟨e, List.mem_filter.2 ⟨by simpa using he, hb.1⟩, hb.2⟩)
                rw [e2] at this; cases this
              · exact h3
            obtain ⟨ap1, ap2, ap3⟩ := Oper.apart_spec hapj
            have hgk' : ok.guard = none := by simpa using hgk
            have wk : ∀ a : Act, Region.wanted ok (yielded ops a.tmps) = true := fun a => by unfold Region.wanted; rw [hgk']
            obtain ⟨v, hy, hk2⟩ : ∃ v, Yields P ops ok v a ∧ wpAny P .any (addE ops j k) Q f (listed.setIfInBounds k true) (a.put ok.dst v) w := by
              unfold wpOp at hk1
              rw [hok] at hk1
              dsimp only at hk1
              rw [wk a, if_pos rfl] at hk1
              rcases hk1 with hh | hh
              · unfold Oper.wp execOp at hh
                cases hop : ok.op <;> rw [hop] at hek <;> first | cases hek; done | skip
                · rename_i x
                  rw [hop] at hh
                  exact ⟨a.eval x, .inl ⟨wk a, fun w => by unfold execOp; rw [hop]; rfl⟩, hh⟩
                · rename_i t ix
                  rw [hop] at hh
                  dsimp only at hh
                  rcases ext_runs (a.eval t) ix with ⟨v, hv⟩ | ⟨s, hs⟩
                  · rw [hv] at hh
                    exact ⟨v, .inl ⟨wk a, fun w => by unfold execOp; rw [hop]; dsimp only; rw [hv]; rfl⟩, hh⟩
                  · rw [hs] at hh; exact hh.elim
              · exact absurd hh.2 hlet
            have sk : (listed.setIfInBounds k true).size = ops.size := by simp [hs]
            have hkl : k < listed.size := by rw [hs]; exact (Array.getElem?_eq_some_iff.1 hok).1
            have hjl : j < listed.size := by rw [hs]; exact (Array.getElem?_eq_some_iff.1 ho).1
            have hir : j ∈ Region.ready .any (addE ops j k) (listed.setIfInBounds k true) := (hsub _ sk j).2 ⟨(ready_ok sk).2 ⟨o, ho, by rw [getD_set hkl, h1]; simpa using hik, fun x hx => by rw [getD_set hkl, h2 x hx]; rfl⟩, fun _ => by rw [getD_set hkl]; simp⟩
            cases f with
            | zero => rw [hk2.1] at hir; cases hir
            | succ f' =>
              have hi2 := addE_wpOp (hk2.2 j hir)
              have hc2 : (tabOf ops).Closed (fun x => (listed.setIfInBounds k true).getD x false) := by
                rw [show (fun x => (listed.setIfInBounds k true).getD x false) = fun x => listed.getD x false || x == k from funext fun x => getD_set hkl]
                exact closed_add _ hc (hclo listed k ok hs hc hok hkd)
              have hc3 : (tabOf ops).Closed (fun x => ((listed.setIfInBounds k true).setIfInBounds j true).getD x false) := by
                rw [show (fun x => ((listed.setIfInBounds k true).setIfInBounds j true).getD x false) = fun x => (listed.setIfInBounds k true).getD x false || x == j from funext fun x => getD_set (by simp [hjl])]
                exact closed_add _ hc2 (hclo _ j o sk hc2 ho fun x hx => by rw [getD_set hkl, h2 x hx]; rfl)
              have hi3 := wpOp_mono (fun a' w' hh => ih f' (by omega) _ a' w' (by simp [hs]) hc3 hh) hi2
              have hQ : ∀ c a w, Q (.panic c) (a.put ok.dst v) w → Q (.panic c) a w := fun c a w hq => by cases hN _ _ _ hq
              have hi4 := wpOp_put ho hapj (fun cs b => Region.noSelect_spec hsel k ok cs b hok) (fun cs b => Region.noSelect_spec hsel j o cs b ho) hQ hy hi3
              refine wpOp_mono (fun a' w' hh => ?_) hi4
              obtain ⟨hy', hi5⟩ := hh
              rw [Array.setIfInBounds_comm _ _ (Ne.symm hik)] at hi5
              refine wpAny_first hok (Region.noSelect_spec hsel) hQ f' (listed.setIfInBounds j true) a' w' (fun m om hm hmk hun hno => ?_) ?_ hy' hi5
              · have hml : m < listed.size := by rw [hs]; exact (Array.getElem?_eq_some_iff.1 hm).1
                have hunl : listed.getD m false = false := by
                  have h5 : (listed.setIfInBounds j true).getD m false = false := by
                    have : m < (listed.setIfInBounds j true).size := by simp [hml]
                    simp only [Array.getD_eq_getD_getElem?, Array.getElem?_eq_getElem this, Option.getD_some] at hun ⊢
                    exact hun
                  rw [getD_set hjl, Bool.or_eq_false_iff] at h5
                  exact h5.1
                have := hap m (List.mem_range.2 (Array.getElem?_eq_some_iff.1 hm).1)
                rw [hm] at this
                simp only [Bool.or_eq_true, beq_iff_eq] at this
                rcases this with h3 | h3 | h3 | h3
                · exact absurd h3 hmk
                · have := hclo listed k ok hs hc hok hkd m h3
                  rw [hunl] at this; cases this
                · obtain ⟨e, he, hb⟩ := Array.any_eq_true'.1 h3
                  simp only [Bool.and_eq_true, beq_iff_eq] at hb
                  exact absurd hb.2 (hno e he hb.1)
                · exact h3
              · exact (ready_ok (by simp [hs])).2 ⟨ok, hok, by rw [getD_set hjl, e2]; simpa using Ne.symm hik, fun x hx => by rw [getD_set hjl, hkd x hx]; rfl⟩
          · have hj2 : j ∈ Region.ready .any (addE ops i k) listed := (hsub listed hs j).2 ⟨hj, fun e1 => by
              cases e2 : listed.getD k false with
              | true => rfl
              | false => exact absurd ⟨e1, e2⟩ e⟩
            exact addE_wpOp (wpOp_mono (fun a' w' hh => next f j o a' w' (by omega) ho h2 hh) (h.2 j hj2))
  · cases hpad
theorem wpAny_pad (hN : ∀ e a w, Q e a w → e = .normal) : ∀ (ps : List (Nat × Nat)) (ops : Array Oper) (f : Nat) (listed : Array Bool) (a : Act) (w : World), listed.size = ops.size → (∀ k, listed.getD k false = true → False) →
    wpAny P .any (padGo ops ps) Q f listed a w → wpAny P .any ops Q f listed a w
  | [], _, _, _, _, _, _, _, h => h
  | (i, k) :: r, ops, f, listed, a, w, hs, h0, h => by
    unfold padGo at h
    cases hp : padOk ops i k with
    | false => rw [hp, cond_false] at h; exact wpAny_pad hN r ops f listed a w hs h0 h
    | true =>
      rw [hp, cond_true] at h
      exact wpAny_edge hp hN f listed a w hs (fun x hx => (h0 x hx).elim) (wpAny_pad hN r _ f listed a w (by rw [addE_size, hs]) h0 h)
end
end Go.D
