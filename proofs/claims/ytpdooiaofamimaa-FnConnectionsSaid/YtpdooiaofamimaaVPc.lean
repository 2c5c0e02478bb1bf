/-
  Neighbours that are alike are told once; slices.Compact.
-/
import Derived.Test.YtpdooiaofamimaaVPt
namespace Go.D
set_option linter.unusedVariables false
set_option linter.unusedSectionVars false
section
variable {α : Type} [DecidableEq α] [Inhabited α]
/-- neighbours that are alike are told once -/
def dedupA : List α → List α
  | [] => []
  | [a] => [a]
  | a :: b :: l => if a = b then dedupA (b :: l) else a :: dedupA (b :: l)
theorem dedupA_mem : ∀ {l : List α} {x : α}, x ∈ dedupA l ↔ x ∈ l := by
  intro l
  induction l with
  | nil => simp [dedupA]
  | cons a l ih =>
    intro x
    cases l with
    | nil => simp [dedupA]
    | cons b l =>
      simp only [dedupA]
      split
      · rename_i e; rw [ih, e]; simp
      · rw [List.mem_cons, ih, List.mem_cons (a := x) (b := a)]
theorem dedupA_cons2 (a b : α) (l : List α) : dedupA (a :: b :: l) = if a = b then dedupA (b :: l) else a :: dedupA (b :: l) := rfl
theorem dedupA_snoc : ∀ (l : List α) (x : α), dedupA (l ++ [x]) = if l.getLast? = some x then dedupA l else dedupA l ++ [x] := by
  intro l
  induction l with
  | nil => intro x; rfl
  | cons a l ih =>
    intro x
    cases l with
    | nil =>
      simp only [List.cons_append, List.nil_append, dedupA, List.getLast?_singleton, Option.some.injEq]
      split <;> simp_all
    | cons b l =>
      have h := ih x
      simp only [List.cons_append] at h ⊢
      rw [dedupA_cons2, h, dedupA_cons2, show (a :: b :: l).getLast? = (b :: l).getLast? from by simp]
      split <;> split <;> simp_all
theorem dedupA_take {l : List α} {k : Nat} (h0 : 0 < k) (hk : k < l.length) : dedupA (l.take (k + 1)) = if l.getD k default = l.getD (k - 1) default then dedupA (l.take k) else dedupA (l.take k) ++ [l.getD k default] := by
  rw [take_succ hk, dedupA_snoc]
  have e : (l.take k).getLast? = some (l.getD (k - 1) default) := by
    rw [List.getLast?_eq_getElem?, List.length_take, List.getElem?_take]
    have : min k l.length - 1 = k - 1 := by omega
    rw [this, if_pos (by omega)]
    simp [List.getD_eq_getElem?_getD, show k - 1 < l.length by omega]
  rw [e]
  simp only [Option.some.injEq, eq_comm]
theorem dedupA_one (l : List α) (h : l.length ≤ 1) : dedupA l = l := by
  match l, h with
  | [], _ => rfl
  | [_], _ => rfl
theorem dedupA_len : ∀ (l : List α), (dedupA l).length ≤ l.length := by
  intro l
  induction l with
  | nil => simp [dedupA]
  | cons a l ih =>
    cases l with
    | nil => simp [dedupA]
    | cons b l => simp only [dedupA]; split <;> simp only [List.length_cons] at * <;> omega
/-- Compact's inner loop: what has been told up to k0 + k2 stands in the first k places -/
structure CompInv (s d : List α) (k0 k k2 : Int) : Prop where
  c2 : 1 ≤ k2
  c0 : 1 ≤ k0
  le : k0 + k2 ≤ s.length
  lo : k0 ≤ k
  hi : k < k0 + k2
  len : d.length = s.length
  dr : d.drop k.toNat = s.drop k.toNat
  tk : d.take k.toNat = dedupA (s.take (k0 + k2).toNat)
theorem getD_drop_eq {s d : List α} {k i : Nat} (h : d.drop k = s.drop k) (hi : k ≤ i) : d.getD i default = s.getD i default := by
  have h1 : (d.drop k)[i - k]? = (s.drop k)[i - k]? := by rw [h]
  simp only [List.getElem?_drop, show k + (i - k) = i by omega] at h1
  simp [List.getD_eq_getElem?_getD, h1]
theorem comp_entry {s : List α} {k : Int} (h1 : 1 ≤ k) (h2 : k < s.length) (hd : dedupA (s.take k.toNat) = s.take k.toNat) (he : s.getD k.toNat default = s.getD (k - 1).toNat default) : CompInv s s k k 1 := by
  refine ⟨by omega, h1, by omega, by omega, by omega, rfl, rfl, ?_⟩
  have := dedupA_take (l := s) (k := k.toNat) (by omega) (by omega)
  rw [show (k - 1).toNat = k.toNat - 1 by omega] at he
  rw [if_pos he, hd] at this
  rw [show (k + 1).toNat = k.toNat + 1 by omega, this]
theorem comp_next {s : List α} {k : Int} (h1 : 1 ≤ k) (h2 : k < s.length) (hd : dedupA (s.take k.toNat) = s.take k.toNat) (he : ¬ s.getD k.toNat default = s.getD (k - 1).toNat default) : dedupA (s.take (k + 1).toNat) = s.take (k + 1).toNat := by
  have := dedupA_take (l := s) (k := k.toNat) (by omega) (by omega)
  rw [show (k - 1).toNat = k.toNat - 1 by omega] at he
  rw [if_neg he, hd] at this
  rw [show (k + 1).toNat = k.toNat + 1 by omega, this, take_succ (by omega)]
theorem CompInv.at_ {s d : List α} {k0 k k2 : Int} (h : CompInv s d k0 k k2) (hlt : k0 + k2 < s.length) :
    d.getD (k0.toNat + k2.toNat) default = s.getD (k0 + k2).toNat default ∧ d.getD (k0.toNat + (k2 - 1).toNat) default = s.getD ((k0 + k2).toNat - 1) default := by
  obtain ⟨a, b, c, e, f, g, i, j⟩ := h
  refine ⟨?_, ?_⟩
  · rw [getD_drop_eq i (by omega)]; congr 1; omega
  · rw [getD_drop_eq i (by omega)]; congr 1; omega
theorem comp_skip {s d : List α} {k0 k k2 : Int} (h : CompInv s d k0 k k2) (hlt : k0 + k2 < s.length) (he : d.getD (k0.toNat + k2.toNat) default = d.getD (k0.toNat + (k2 - 1).toNat) default) : CompInv s d k0 k (k2 + 1) := by
  obtain ⟨e1, e2⟩ := h.at_ hlt
  have ht := h.tk
  obtain ⟨a, b, c, e, f, g, i, j⟩ := h
  refine ⟨by omega, b, by omega, e, by omega, g, i, ?_⟩
  have := dedupA_take (l := s) (k := (k0 + k2).toNat) (by omega) (by omega)
  rw [← e1, ← e2, if_pos he] at this
  rw [show (k0 + (k2 + 1)).toNat = (k0 + k2).toNat + 1 by omega, this, ht]
theorem comp_put {s d : List α} {k0 k k2 : Int} (h : CompInv s d k0 k k2) (hlt : k0 + k2 < s.length) (he : ¬ d.getD (k0.toNat + k2.toNat) default = d.getD (k0.toNat + (k2 - 1).toNat) default) : CompInv s (d.modify k.toNat fun _ => d.getD (k0.toNat + k2.toNat) default) k0 (k + 1) (k2 + 1) := by
  obtain ⟨e1, e2⟩ := h.at_ hlt
  have ht := h.tk
  obtain ⟨a, b, c, e, f, g, i, j⟩ := h
  have hk : k.toNat < d.length := by omega
  refine ⟨by omega, b, by omega, by omega, by omega, by simp [g], ?_, ?_⟩
  · rw [show (k + 1).toNat = k.toNat + 1 by omega]
    have h1 : (d.modify k.toNat fun _ => d.getD (k0.toNat + k2.toNat) default).drop (k.toNat + 1) = d.drop (k.toNat + 1) := by
      apply List.ext_getElem?
      intro x
      simp only [List.getElem?_drop, List.getElem?_modify]
      have hx : ¬ k.toNat = k.toNat + 1 + x := by omega
      cases d[k.toNat + 1 + x]? <;> simp [hx]
    rw [h1]
    have := congrArg (List.drop 1) i
    simpa [List.drop_drop, Nat.add_comm] using this
  · have := dedupA_take (l := s) (k := (k0 + k2).toNat) (by omega) (by omega)
    rw [← e1, ← e2, if_neg he, ← ht] at this
    rw [show (k0 + (k2 + 1)).toNat = (k0 + k2).toNat + 1 by omega, this, show (k + 1).toNat = k.toNat + 1 by omega]
    rw [take_succ (by simpa using hk)]
    congr 1
    · apply List.ext_getElem?
      intro x
      simp only [List.getElem?_take, List.getElem?_modify]
      split
      · have hx : ¬ k.toNat = x := by omega
        cases d[x]? <;> simp [hx]
      · rfl
    · simp [List.getD_eq_getElem?_getD, hk]
theorem comp_end {s d : List α} {k0 k k2 : Int} (h : CompInv s d k0 k k2) (hge : s.length ≤ k0 + k2) (r : List α) : cut (put3 d k.toNat r) 0 (k.toNat - 0) = dedupA s := by
  obtain ⟨a, b, c, e, f, g, i, j⟩ := h
  have hk : k.toNat ≤ d.length := by omega
  rw [List.take_of_length_le (show s.length ≤ (k0 + k2).toNat by omega)] at j
  rw [← j]
  simp [cut, put3, List.length_take, Nat.min_eq_left hk]
theorem mem_take_succ {l : List α} {i : Nat} (hi : i < l.length) {m : α} : m ∈ l.take (i + 1) ↔ m = l.getD i default ∨ m ∈ l.take i := by
  rw [take_succ hi]; simp [or_comm]
theorem insA_mem {out : List α} {x z : α} {at_ : Nat} : z ∈ out.take at_ ++ x :: out.drop at_ ↔ z = x ∨ z ∈ out := by
  conv => rhs; rw [← List.take_append_drop at_ out]
  simp only [List.mem_append, List.mem_cons]
  constructor
  · rintro (h | h | h)
    · exact .inr (.inl h)
    · exact .inl h
    · exact .inr (.inr h)
  · rintro (h | h | h)
    · exact .inr (.inl h)
    · exact .inl h
    · exact .inr (.inr h)
end
theorem put3_length {α : Type} (xs ys : List α) (e : Nat) : (put3 xs e ys).length = min e xs.length + ys.length + (xs.length - (e + ys.length)) := by simp [put3]; omega
theorem cut_length {α : Type} (xs : List α) (a n : Nat) : (cut xs a n).length = min n (xs.length - a) := by simp [cut]
theorem put3_cut {α : Type} (xs ys : List α) (k : Nat) (h : k ≤ xs.length) : cut (put3 xs k ys) 0 k = xs.take k := by
  simp [cut, put3, List.length_take, Nat.min_eq_left h]
theorem del_cut {α : Type} {l : List α} {i j m : Nat} (hj : j ≤ l.length) (hi : i ≤ j) (hm : m = l.length - j) : (put3 l i (cut l j m)).take (i + m) = l.take i ++ l.drop j := by
  have h1 : cut l j m = l.drop j := by simp [cut, hm, List.take_of_length_le]
  rw [h1]
  have h2 : (l.take i ++ l.drop j).length = i + m := by simp; omega
  simp only [put3]
  rw [← h2, List.take_left']
  rfl
theorem pw_unique {α : Type} {r : α → α → Prop} (irr : ∀ a, ¬ r a a) (asy : ∀ a b, r a b → ¬ r b a) : ∀ {l m : List α}, l.Pairwise r → m.Pairwise r → (∀ a, a ∈ l ↔ a ∈ m) → l = m := by
  intro l
  induction l with
  | nil => intro m _ _ h; cases m with
    | nil => rfl
    | cons b m => exact absurd ((h b).2 List.mem_cons_self) (by simp)
  | cons a l ih =>
    intro m hl hm h
    cases m with
    | nil => exact absurd ((h a).1 List.mem_cons_self) (by simp)
    | cons b m =>
      have hl' := List.pairwise_cons.1 hl
      have hm' := List.pairwise_cons.1 hm
      have hab : a = b := by
        rcases List.mem_cons.1 ((h a).1 List.mem_cons_self) with e | hin
        · exact e
        · rcases List.mem_cons.1 ((h b).2 List.mem_cons_self) with e | hin2
          · exact e.symm
          · exact absurd (hl'.1 b hin2) (asy _ _ (hm'.1 a hin))
      subst hab
      refine congrArg _ (ih hl'.2 hm'.2 fun x => ⟨fun hx => ?_, fun hx => ?_⟩)
      · rcases List.mem_cons.1 ((h x).1 (List.mem_cons_of_mem _ hx)) with e | hin
        · subst e; exact absurd (hl'.1 x hx) (irr x)
        · exact hin
      · rcases List.mem_cons.1 ((h x).2 (List.mem_cons_of_mem _ hx)) with e | hin
        · subst e; exact absurd (hm'.1 x hx) (irr x)
        · exact hin
/-- sorted, then without doubles: in strict order -/
theorem dedup_pw {α : Type} [DecidableEq α] [Inhabited α] {le lt : α → α → Prop} (h0 : ∀ a b, le a b → a ≠ b → lt a b) (h1 : ∀ a b c, lt a b → le b c → lt a c) : ∀ {l : List α}, l.Pairwise le → (dedupA l).Pairwise lt := by
  intro l
  induction l with
  | nil => intro _; exact List.Pairwise.nil
  | cons a l ih =>
    intro h
    cases l with
    | nil => exact List.pairwise_singleton _ _
    | cons b l =>
      have h' := List.pairwise_cons.1 h
      simp only [dedupA]
      split
      · exact ih h'.2
      · rename_i e
        refine List.pairwise_cons.2 ⟨fun x hx => ?_, ih h'.2⟩
        have hx' := dedupA_mem.1 hx
        have hab := h0 _ _ (h'.1 b List.mem_cons_self) e
        rcases List.mem_cons.1 hx' with e2 | hin
        · rw [e2]; exact hab
        · exact h1 _ _ _ hab ((List.pairwise_cons.1 h'.2).1 x hin)
end Go.D
