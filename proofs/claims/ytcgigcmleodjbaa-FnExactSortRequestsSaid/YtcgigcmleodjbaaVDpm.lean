/-
  A region told in another order of its operations: what holds of every order of the one holds of every order of the other.
-/
import Derived.Orders
namespace Go.D
set_option linter.unusedVariables false
def ren (ord : List Nat) (o : Oper) : Oper := { o with after := o.after.map (fun e => { e with on := ord.idxOf e.on }), guard := o.guard.map fun g => (ord.idxOf g.1, g.2) }
def permOps (ops : Array Oper) (ord : List Nat) : Array Oper := (ord.map fun i => ren ord (ops.getD i default)).toArray
def permOk (n : Nat) (ord : List Nat) : Bool := (ord.length == n) && ((List.range n).all (fun i => ord[ord.idxOf i]? == some i) && (List.range n).all fun p => match ord[p]? with
  | some i => decide (i < n) && ord.idxOf i == p
  | none => false)
section
variable {P : Program} {Q : Exit → Act → World → Prop} {ops : Array Oper} {ord : List Nat}
theorem perm_len (h : permOk ops.size ord = true) : ord.length = ops.size := by
  unfold permOk at h; rw [Bool.and_eq_true] at h; simpa using h.1
theorem perm_to (h : permOk ops.size ord = true) {i : Nat} (hi : i < ops.size) : ord[ord.idxOf i]? = some i := by
  unfold permOk at h; simp only [Bool.and_eq_true] at h
  have := List.all_eq_true.1 h.2.1 i (List.mem_range.2 hi)
  simpa using this
theorem perm_lt (h : permOk ops.size ord = true) {i : Nat} (hi : i < ops.size) : ord.idxOf i < ops.size := by
  have := (List.getElem?_eq_some_iff.1 (perm_to h hi)).1
  rw [perm_len h] at this
  exact this
theorem perm_from (h : permOk ops.size ord = true) {p : Nat} (hp : p < ops.size) : ∃ i, i < ops.size ∧ ord.idxOf i = p := by
  unfold permOk at h; simp only [Bool.and_eq_true] at h
  have := List.all_eq_true.1 h.2.2 p (List.mem_range.2 hp)
  split at this
  · rename_i i hi
    simp only [Bool.and_eq_true, decide_eq_true_eq, beq_iff_eq] at this
    exact ⟨i, this⟩
  · cases this
theorem perm_out (h : permOk ops.size ord = true) {i : Nat} (hi : ops.size ≤ i) : ord.idxOf i = ops.size := by
  rw [← perm_len h]
  refine List.idxOf_eq_length ?_
  intro hm
  obtain ⟨p, hp, hpe⟩ := List.getElem_of_mem hm
  have hp2 : p < ops.size := by rw [← perm_len h]; exact hp
  unfold permOk at h; simp only [Bool.and_eq_true] at h
  have := List.all_eq_true.1 h.2.2 p (List.mem_range.2 hp2)
  rw [List.getElem?_eq_getElem hp, hpe] at this
  simp only [Bool.and_eq_true, decide_eq_true_eq] at this
  omega
theorem perm_inj (h : permOk ops.size ord = true) {i j : Nat} (hi : i < ops.size) (he : ord.idxOf j = ord.idxOf i) : j = i := by
  rcases Nat.lt_or_ge j ops.size with hj | hj
  · have h1 := perm_to h hj
    rw [he, perm_to h hi] at h1
    injection h1 with h1
    exact h1.symm
  · have h1 := perm_out h hj
    have h2 := perm_lt h hi
    omega
theorem perm_size (h : permOk ops.size ord = true) : (permOps ops ord).size = ops.size := by simp [permOps, perm_len h]
theorem perm_get (h : permOk ops.size ord = true) {i : Nat} {o : Oper} (ho : ops[i]? = some o) : (permOps ops ord)[ord.idxOf i]? = some (ren ord o) := by
  have hi := (Array.getElem?_eq_some_iff.1 ho).1
  simp only [permOps, List.getElem?_toArray, List.getElem?_map, perm_to h hi, Option.map_some]
  rw [Array.getD_eq_getD_getElem?, ho]
  rfl
theorem perm_none (h : permOk ops.size ord = true) {i : Nat} (ho : ops[i]? = none) : (permOps ops ord)[ord.idxOf i]? = none := by
  have hi : ops.size ≤ i := by simpa using ho
  rw [perm_out h hi]
  simp [perm_size h]
theorem perm_dst (h : permOk ops.size ord = true) (i : Nat) : ((permOps ops ord)[ord.idxOf i]?).bind (·.dst) = (ops[i]?).bind (·.dst) := by
  cases ho : ops[i]? with
  | none => rw [perm_none h ho]
  | some o => rw [perm_get h ho]; rfl
theorem perm_wanted (h : permOk ops.size ord = true) (o : Oper) (tmps : Array Value) : Region.wanted (ren ord o) (yielded (permOps ops ord) tmps) = Region.wanted o (yielded ops tmps) := by
  unfold Region.wanted ren
  cases o.guard with
  | none => rfl
  | some g =>
    obtain ⟨j, want⟩ := g
    simp only [Option.map_some]
    have : yielded (permOps ops ord) tmps (ord.idxOf j) = yielded ops tmps j := by
      unfold yielded
      rw [perm_dst h j]
    rw [this]
theorem perm_ready (h : permOk ops.size ord = true) {listed listed' : Array Bool} (hs : listed.size = ops.size) (hs' : listed'.size = ops.size) (hl : ∀ j, listed.getD j false = listed'.getD (ord.idxOf j) false) {i : Nat} (hi : i < ops.size) :
    i ∈ Region.ready .any ops listed ↔ ord.idxOf i ∈ Region.ready .any (permOps ops ord) listed' := by
  unfold Region.ready
  rw [List.mem_filter, List.mem_filter, List.mem_range, List.mem_range, perm_size h]
  have ht : ∀ (a : Array Bool) (k : Nat), k < a.size → a.getD k true = a.getD k false := fun a k hk => by simp [hk]
  have e1 : listed.getD i true = listed'.getD (ord.idxOf i) true := by
    rw [ht _ _ (by omega), ht _ _ (by have := perm_lt h hi; omega), hl]
  have ho : ops[i]? = some ops[i] := by simp [hi]
  rw [e1, ho, perm_get h ho]
  simp only [hi, perm_lt h hi, true_and, Option.map_some, Option.getD_some]
  have e2 : ((ren ord ops[i]).after.all fun e => !Region.binds .any e || listed'.getD e.on false) = (ops[i].after.all fun e => !Region.binds .any e || listed.getD e.on false) := by
    unfold ren
    rw [Array.all_map]
    congr 1
    funext e
    simp only [Function.comp]
    rw [hl e.on]
    rfl
  rw [e2]
theorem wpAny_perm (h : permOk ops.size ord = true) : ∀ (f : Nat) (listed listed' : Array Bool) (a : Act) (w : World), listed.size = ops.size → listed'.size = ops.size → (∀ j, listed.getD j false = listed'.getD (ord.idxOf j) false) →
    wpAny P .any (permOps ops ord) Q f listed' a w → wpAny P .any ops Q f listed a w := by
  have hnil : ∀ (listed listed' : Array Bool), listed.size = ops.size → listed'.size = ops.size → (∀ j, listed.getD j false = listed'.getD (ord.idxOf j) false) → (Region.ready .any (permOps ops ord) listed' = [] ↔ Region.ready .any ops listed = []) := by
    intro listed listed' hs hs' hl
    constructor
    · intro hn
      refine List.eq_nil_iff_forall_not_mem.2 fun i hi => ?_
      have hin : i < ops.size := by unfold Region.ready at hi; exact List.mem_range.1 (List.mem_filter.1 hi).1
      have := (perm_ready h hs hs' hl hin).1 hi
      rw [hn] at this
      cases this
    · intro hn
      refine List.eq_nil_iff_forall_not_mem.2 fun p hp => ?_
      have hpn : p < ops.size := by unfold Region.ready at hp; have := List.mem_range.1 (List.mem_filter.1 hp).1; rw [perm_size h] at this; exact this
      obtain ⟨i, hi, rfl⟩ := perm_from h hpn
      have := (perm_ready h hs hs' hl hi).2 hp
      rw [hn] at this
      cases this
  intro f
  induction f with
  | zero =>
    intro listed listed' a w hs hs' hl hh
    exact ⟨(hnil listed listed' hs hs' hl).1 hh.1, hh.2⟩
  | succ f ih =>
    intro listed listed' a w hs hs' hl hh
    refine ⟨fun hn => hh.1 ((hnil listed listed' hs hs' hl).2 hn), fun i hi => ?_⟩
    have hin : i < ops.size := by unfold Region.ready at hi; exact List.mem_range.1 (List.mem_filter.1 hi).1
    have h1 := hh.2 _ ((perm_ready h hs hs' hl hin).1 hi)
    have hk : ∀ a w, wpAny P .any (permOps ops ord) Q f (listed'.setIfInBounds (ord.idxOf i) true) a w → wpAny P .any ops Q f (listed.setIfInBounds i true) a w := by
      intro a w hk
      refine ih _ _ a w (by simp [hs]) (by simp [hs']) (fun j => ?_) hk
      by_cases e : j = i
      · subst e
        have := perm_lt h hin
        simp [hs, hs', hin, this]
      · have e2 : ¬ ord.idxOf j = ord.idxOf i := fun e2 => e (perm_inj h hin e2)
        have := hl j
        simp only [Array.getD_eq_getD_getElem?] at this ⊢
        rw [Array.getElem?_setIfInBounds_ne (fun x => e x.symm), Array.getElem?_setIfInBounds_ne (fun x => e2 x.symm)]
        exact this
    have ho : ops[i]? = some ops[i] := by simp [hin]
    unfold wpOp at h1 ⊢
    rw [ho]
    rw [perm_get h ho] at h1
    dsimp only at h1 ⊢
    rw [perm_wanted h] at h1
    split
    · rename_i hw
      rw [if_pos hw] at h1
      exact h1.imp (fun hx => Oper.wp_mono (o := ops[i]) hk hx) id
    · rename_i hw
      rw [if_neg hw] at h1
      exact hk _ _ h1
end
end Go.D
