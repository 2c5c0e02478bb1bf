/-
  A region told in parts: the orders in which a store comes ahead of a load that does not depend on it, and the others.
-/
import Derived.Test.YtcgigcmleodjbaaVDv
namespace Go.D
set_option linter.unusedVariables false
section
variable {P : Program} {E : Env} {F : Fr P} {G G' : Gh} {σ σ' σb : St} {a a' : Act} {w w' : World} {o : Oper} {K : St → Out} {Q : Post} {R : Exit → Act → World → Prop} {ops : Array Oper}
/-- an order of a region's operations -/
def Goes (ops : Array Oper) : Array Bool → List Nat → Prop
  | listed, [] => Region.ready .any ops listed = []
  | listed, i :: L => i ∈ Region.ready .any ops listed ∧ Goes ops (listed.setIfInBounds i true) L
def AnyL (P : Program) (ops : Array Oper) (R : Exit → Act → World → Prop) (a : Act) (w : World) : Prop := ∀ L, Goes ops (Array.replicate ops.size false) L → wpOps P ops R L a w
theorem any_valid : ∀ (f : Nat) (listed : Array Bool) (a : Act) (w : World), wpAny P .any ops R f listed a w → ∀ L, Goes ops listed L → wpOps P ops R L a w := by
  intro f
  induction f with
  | zero =>
    intro listed a w h L hv
    cases L with
    | nil => exact h.2
    | cons i L =>
      have := hv.1
      rw [h.1] at this
      cases this
  | succ f ih =>
    intro listed a w h L hv
    cases L with
    | nil => exact h.1 hv
    | cons i L =>
      rw [wpOps_cons]
      exact wpOp_mono (fun a' w' h' => ih _ a' w' h' L hv.2) (h.2 i hv.1)
theorem ready_addE {i k : Nat} {listed : Array Bool} (hs : listed.size = ops.size) (j : Nat) : j ∈ Region.ready .any (addE ops i k) listed ↔ (j ∈ Region.ready .any ops listed ∧ (j = i → listed.getD k false = true)) := by
  rw [ready_ok (ops := addE ops i k) (by rw [addE_size, hs]), ready_ok hs]
  constructor
  · rintro ⟨o, ho, h1, h2⟩
    cases hoj : ops[j]? with
    | none => rw [addE_none hoj] at ho; cases ho
    | some o' =>
      rw [addE_get hoj] at ho
      injection ho with ho
      by_cases e : j = i
      · rw [if_pos e] at ho
        subst ho
        exact ⟨⟨o', rfl, h1, fun x hx => h2 x (dirs_addE.2 (.inl hx))⟩, fun _ => h2 k (dirs_addE.2 (.inr rfl))⟩
      · rw [if_neg e] at ho
        subst ho
        exact ⟨⟨o', rfl, h1, h2⟩, fun e2 => absurd e2 e⟩
  · rintro ⟨⟨o, ho, h1, h2⟩, h3⟩
    refine ⟨_, addE_get ho, h1, fun x hx => ?_⟩
    by_cases e : j = i
    · rw [if_pos e] at hx
      rcases dirs_addE.1 hx with hx | hx
      · exact h2 x hx
      · rw [hx]; exact h3 e
    · rw [if_neg e] at hx; exact h2 x hx
/-- k comes ahead of i in what is left, or has come up -/
def Ahead (k i : Nat) : List Nat → Prop
  | [] => True
  | j :: L => j = k ∨ (j ≠ i ∧ Ahead k i L)
theorem ahead_or (k i : Nat) : ∀ L : List Nat, Ahead k i L ∨ Ahead i k L
  | [] => .inl trivial
  | j :: L => by
    by_cases h1 : j = k
    · exact .inl (.inl h1)
    · by_cases h2 : j = i
      · exact .inr (.inl h2)
      · rcases ahead_or k i L with h | h
        · exact .inl (.inr ⟨h2, h⟩)
        · exact .inr (.inr ⟨h1, h⟩)
theorem goes_addE {i k : Nat} (hik : i ≠ k) : ∀ (L : List Nat) (listed : Array Bool), listed.size = ops.size → Goes ops listed L → (listed.getD k false = true ∨ Ahead k i L) → Goes (addE ops i k) listed L := by
  intro L
  induction L with
  | nil =>
    intro listed hs hv _
    refine List.eq_nil_iff_forall_not_mem.2 fun j hj => ?_
    have := ((ready_addE hs j).1 hj).1
    rw [hv] at this
    cases this
  | cons j L ih =>
    intro listed hs hv hk
    have hjl : j < listed.size := by
      obtain ⟨o, ho, _⟩ := (ready_ok hs).1 hv.1
      rw [hs]; exact (Array.getElem?_eq_some_iff.1 ho).1
    refine ⟨(ready_addE hs j).2 ⟨hv.1, fun e => ?_⟩, ih _ (by simp [hs]) hv.2 ?_⟩
    · rcases hk with hk | hk | hk
      · exact hk
      · exact absurd (e.symm.trans hk) hik
      · exact absurd e hk.1
    · rcases hk with hk | hk | hk
      · exact .inl (by rw [getD_set hjl, hk]; rfl)
      · exact .inl (by rw [getD_set hjl, hk]; simp)
      · exact .inr hk.2
theorem wpOps_addE {i k : Nat} : ∀ (L : List Nat) (a : Act) (w : World), wpOps P (addE ops i k) R L a w → wpOps P ops R L a w
  | [], _, _, h => h
  | j :: L, a, w, h => by
    rw [wpOps_cons] at h ⊢
    exact wpOp_mono (fun a' w' => wpOps_addE L a' w') (addE_wpOp h)
theorem anyL_split {i k : Nat} (hik : i ≠ k) (h1 : AnyL P (addE ops i k) R a w) (h2 : AnyL P (addE ops k i) R a w) : AnyL P ops R a w := by
  intro L hv
  unfold AnyL at h1 h2
  rw [addE_size] at h1 h2
  rcases ahead_or k i L with h | h
  · exact wpOps_addE L a w (h1 L (goes_addE hik L _ (by simp) hv (.inr h)))
  · exact wpOps_addE L a w (h2 L (goes_addE (Ne.symm hik) L _ (by simp) hv (.inr h)))
theorem go_goes : ∀ (f t : Nat) (listed : Array Bool), listed.size = ops.size → unl (fun k => listed.getD k false) ops.size ≤ f → Goes ops listed (Region.linearise.go .any ops f t listed []) := by
  intro f
  induction f with
  | zero =>
    intro t listed hs hu
    have hall := unl_zero (Nat.le_zero.1 hu)
    refine List.eq_nil_iff_forall_not_mem.2 fun j hj => ?_
    obtain ⟨o, ho, h1, _⟩ := (ready_ok hs).1 hj
    rw [hall j (Array.getElem?_eq_some_iff.1 ho).1] at h1
    cases h1
  | succ f ih =>
    intro t listed hs hu
    simp only [Region.linearise.go]
    change Goes ops listed (match (Region.ready .any ops listed)[t % (Region.ready .any ops listed).length]? with
      | some i => Region.linearise.go .any ops f (t / (Region.ready .any ops listed).length) (listed.setIfInBounds i true) [i]
      | none => [].reverse)
    cases hi : (Region.ready .any ops listed)[t % (Region.ready .any ops listed).length]? with
    | none =>
      show Region.ready .any ops listed = []
      cases hr : Region.ready .any ops listed with
      | nil => rfl
      | cons x xs =>
        rw [hr] at hi
        have hlt : t % (x :: xs).length < (x :: xs).length := Nat.mod_lt _ (by simp)
        simp at hi
        simp at hlt
        omega
    | some i =>
      simp only []
      rw [linearise_go_acc, List.reverse_singleton, List.singleton_append]
      have hm := List.mem_of_getElem? hi
      refine ⟨hm, ih _ _ (by simp [hs]) ?_⟩
      obtain ⟨o, ho, h1, _⟩ := (ready_ok hs).1 hm
      have hlt := (Array.getElem?_eq_some_iff.1 ho).1
      rw [show (fun k => (listed.setIfInBounds i true).getD k false) = fun k => listed.getD k false || k == i from funext fun k => getD_set (by omega)]
      have := (unl_add (S := fun k => listed.getD k false) h1 (n := ops.size)).2 hlt
      omega
theorem region_anyL {id : Nat} (hm : P.follows .mixedOrders = true) (h : AnyL P ops R a { w with drawn := w.drawn + 1 }) : (Code.region id ops true).wp P R a w :=
  wp_region_draw fun t => by
    simp only [Region.schedule, hm, Bool.true_or, if_true]
    refine h _ (go_goes ops.size t _ (by simp) ?_)
    have : ∀ n, unl (fun k => (Array.replicate ops.size false).getD k false) n ≤ n := by
      intro n
      induction n with
      | zero => exact Nat.le_refl _
      | succ n ih => simp only [unl]; split <;> omega
    exact this _
/-! the walk -/
def topoGo (ops : Array Oper) : Nat → List Nat → List Nat
  | 0, done => done
  | f + 1, done => match (List.range ops.size).find? (fun j => !done.contains j && (dirs (ops.getD j default)).all fun e => done.contains e) with
    | some j => topoGo ops f (done ++ [j])
    | none => done
def evPad (P : Program) (E : Env) (ops : Array Oper) (σ : St) (K : St → Out) : Out := evDraw1 P E (padGo ops (pairsOf ops)) σ K
def evLeaf (P : Program) (E : Env) (ops : Array Oper) (σ : St) (K : St → Out) : Out :=
  bif dirsOk ops then evPad P E ops σ K else bif permOk ops.size (topoGo ops ops.size []) then evPad P E (permOps ops (topoGo ops ops.size [])) σ K else .bad
def closGo (ops : Array Oper) : Nat → List Nat → List Nat
  | 0, T => T
  | f + 1, T => closGo ops f (ops.toList.map fun o => maskOf T (dirs o))
/-- a store and another operation that nothing orders -/
def splitOf (ops : Array Oper) : Option (Nat × Nat) :=
  let st := (List.range ops.size).filter fun i => isSt (ops.getD i default)
  bif st.isEmpty then none else
    let T := closGo ops ops.size []
    (st.flatMap fun b => ((List.range ops.size).filter fun u => !(isMv (ops.getD u default) || isExt (ops.getD u default))).map fun u => (b, u)).find? fun x => !(x.1 == x.2) && !(T.getD x.1 0).testBit x.2 && !(T.getD x.2 0).testBit x.1
def evDrawS (P : Program) (E : Env) : Nat → Array Oper → St → (St → Out) → Out
  | 0, ops, σ, K => evLeaf P E ops σ K
  | f + 1, ops, σ, K => match splitOf ops with
    | none => evLeaf P E ops σ K
    | some (b, u) => bif b == u then .bad else .lp Bool True (fun _ => True) fun y => .br y (evDrawS P E f (addE ops b u) σ K) (evDrawS P E f (addE ops u b) σ K)
def evDraw (P : Program) (E : Env) (ops : Array Oper) (σ : St) (K : St → Out) : Out := evDrawS P E 6 ops σ K
theorem none_listed (n k : Nat) : (Array.replicate n false).getD k false = false := by by_cases hk : k < n <;> simp [hk]
theorem evPad_ok (hE : EOk P E) (h : RG F G σ a w) (hh : (evPad P E ops σ K).holds Q) : P.follows .mixedOrders = true ∧
    wpAny P .any ops (fun e a w => e = .normal ∧ Cont F (fun σ' => K σ'.weak.lits) Q a w) ops.size (Array.replicate ops.size false) a { w with drawn := w.drawn + 1 } := by
  obtain ⟨h1, h2⟩ := evDraw1_ok hE h hh
  rw [padGo_size] at h2
  exact ⟨h1, wpAny_pad (fun _ _ _ h => h.1) _ _ _ _ _ _ (by simp) (fun k hk => by rw [none_listed] at hk; cases hk) h2⟩
theorem evLeaf_ok (hE : EOk P E) (h : RG F G σ a w) (hh : (evLeaf P E ops σ K).holds Q) : P.follows .mixedOrders = true ∧
    AnyL P ops (fun e a w => e = .normal ∧ Cont F (fun σ' => K σ'.weak.lits) Q a w) a { w with drawn := w.drawn + 1 } := by
  unfold evLeaf at hh
  cases hd : dirsOk ops with
  | true =>
    rw [hd, cond_true] at hh
    obtain ⟨h1, h2⟩ := evPad_ok hE h hh
    exact ⟨h1, any_valid _ _ _ _ h2⟩
  | false =>
    rw [hd, cond_false] at hh
    cases hp : permOk ops.size (topoGo ops ops.size []) with
    | false => rw [hp] at hh; exact hh.elim
    | true =>
      rw [hp, cond_true] at hh
      obtain ⟨h1, h2⟩ := evPad_ok hE h hh
      rw [perm_size hp] at h2
      exact ⟨h1, any_valid _ _ _ _ (wpAny_perm hp _ _ _ _ _ (by simp) (by simp) (fun j => by rw [none_listed, none_listed]) h2)⟩
theorem evDrawS_ok (hE : EOk P E) (h : RG F G σ a w) : ∀ (f : Nat) (ops : Array Oper), (evDrawS P E f ops σ K).holds Q → P.follows .mixedOrders = true ∧
    AnyL P ops (fun e a w => e = .normal ∧ Cont F (fun σ' => K σ'.weak.lits) Q a w) a { w with drawn := w.drawn + 1 } := by
  intro f
  induction f with
  | zero => intro ops hh; exact evLeaf_ok hE h hh
  | succ f ih =>
    intro ops hh
    unfold evDrawS at hh
    split at hh
    · exact evLeaf_ok hE h hh
    · rename_i b u _
      cases hb : (b == u) with
      | true => rw [hb] at hh; exact hh.elim
      | false =>
        rw [hb, cond_false] at hh
        obtain ⟨h1, h2⟩ := ih _ ((hh.2 true trivial).1 rfl)
        obtain ⟨_, h3⟩ := ih _ ((hh.2 false trivial).2 rfl)
        exact ⟨h1, anyL_split (by simpa using hb) h2 h3⟩
theorem evDraw_ok {id : Nat} (hE : EOk P E) (h : RG F G σ a w) (hh : (evDraw P E ops σ K).holds Q) : (Code.region id ops true).wp P (fun e a w => e = .normal ∧ Cont F K Q a w) a w := by
  obtain ⟨h1, h2⟩ := evDrawS_ok hE h 6 ops hh
  refine Code.wp_mono (fun e a w ⟨he, σ', ⟨G', h'⟩, hh'⟩ => ?_) (region_anyL h1 h2)
  obtain ⟨G2, h2⟩ := lits_ok h'.weak
  exact ⟨he, σ'.weak.lits, ⟨G2, h2⟩, hh'⟩
end
end Go.D
