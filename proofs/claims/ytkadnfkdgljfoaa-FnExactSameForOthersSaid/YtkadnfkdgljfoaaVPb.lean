/-
  Addresses in order: comparison, sorting without doubles.
-/
import Derived.Test.YtkadnfkdgljfoaaVPc
import Derived.Lib.Bytealg
import Derived.Sort.LotA
import Derived.Laws.Strings
namespace Go.D
open Go.Lib Go.Sort
set_option linter.unusedVariables false
def cmpB (a b : ByteArray) : Int := compareBytes a.data.toList b.data.toList
theorem cb_range : ∀ l m : List UInt8, compareBytes l m = -1 ∨ compareBytes l m = 0 ∨ compareBytes l m = 1 := by
  intro l
  induction l with
  | nil => intro m; cases m <;> simp [compareBytes]
  | cons a l ih =>
    intro m
    cases m with
    | nil => simp [compareBytes]
    | cons b m =>
      simp only [compareBytes]
      split
      · simp
      · split
        · simp
        · exact ih m
theorem cb_eq : ∀ {l m : List UInt8}, compareBytes l m = 0 ↔ l = m := by
  intro l
  induction l with
  | nil => intro m; cases m <;> simp [compareBytes]
  | cons a l ih =>
    intro m
    cases m with
    | nil => simp [compareBytes]
    | cons b m =>
      simp only [compareBytes, List.cons.injEq]
      split
      · rename_i h; simp; intro e; subst e; exact absurd h (UInt8.lt_irrefl _)
      · split
        · rename_i h; simp; intro e; subst e; exact absurd h (UInt8.lt_irrefl _)
        · rename_i h1 h2
          have e : a = b := UInt8.le_antisymm (UInt8.not_lt.1 h2) (UInt8.not_lt.1 h1)
          simp [e, ih]
theorem cb_anti : ∀ {l m : List UInt8}, compareBytes m l = - compareBytes l m := by
  intro l
  induction l with
  | nil => intro m; cases m <;> simp [compareBytes]
  | cons a l ih =>
    intro m
    cases m with
    | nil => simp [compareBytes]
    | cons b m =>
      simp only [compareBytes]
      by_cases h1 : a < b
      · have h2 : ¬ b < a := fun h => UInt8.lt_irrefl _ (UInt8.lt_trans h1 h)
        simp [h1, h2]
      · by_cases h2 : b < a
        · simp [h1, h2]
        · simp [h1, h2, ih]
theorem cb_trans : ∀ {l m n : List UInt8}, compareBytes l m < 0 → compareBytes m n < 0 → compareBytes l n < 0 := by
  intro l
  induction l with
  | nil => intro m n h1 h2; cases n with
    | nil => cases m <;> simp [compareBytes] at h1 h2
    | cons c n => simp [compareBytes]
  | cons a l ih =>
    intro m n h1 h2
    cases m with
    | nil => simp [compareBytes] at h1
    | cons b m =>
      cases n with
      | nil => simp [compareBytes] at h2
      | cons c n =>
        simp only [compareBytes] at h1 h2 ⊢
        by_cases hab : a < b
        · by_cases hbc : b < c
          · simp [UInt8.lt_trans hab hbc]
          · by_cases hcb : c < b
            · simp [hbc, hcb] at h2
            · have e : b = c := UInt8.le_antisymm (UInt8.not_lt.1 hcb) (UInt8.not_lt.1 hbc)
              simp [← e, hab]
        · by_cases hba : b < a
          · simp [hab, hba] at h1
          · have e : a = b := UInt8.le_antisymm (UInt8.not_lt.1 hba) (UInt8.not_lt.1 hab)
            subst e
            by_cases hbc : a < c
            · simp [hbc]
            · by_cases hcb : c < a
              · simp [hbc, hcb] at h2
              · simp only [hab, hbc, hcb, if_false] at h1 h2 ⊢
                exact ih h1 h2
theorem less_cb : ∀ {l m : List UInt8}, Op.bytesLess l m = decide (compareBytes l m < 0) := by
  intro l
  induction l with
  | nil => intro m; cases m <;> simp [Op.bytesLess, compareBytes]
  | cons a l ih =>
    intro m
    cases m with
    | nil => simp [Op.bytesLess, compareBytes]
    | cons b m =>
      simp only [Op.bytesLess, compareBytes, ih]
      by_cases h1 : a < b
      · simp [h1]
      · by_cases h2 : b < a
        · have : ¬ a = b := fun e => UInt8.lt_irrefl _ (e ▸ h2)
          simp [h1, h2, this]
        · have e : a = b := UInt8.le_antisymm (UInt8.not_lt.1 h2) (UInt8.not_lt.1 h1)
          simp [e, UInt8.lt_irrefl]
theorem less_cmpB (a b : ByteArray) : Op.bytesLess a.toList b.toList = decide (cmpB a b < 0) := by
  rw [less_cb, Lib.toList_data, Lib.toList_data]; rfl
theorem ba_ext {a b : ByteArray} (h : a.data.toList = b.data.toList) : a = b := by
  cases a; cases b; simpa using Array.toList_inj.1 h
theorem cmpB_eq {a b : ByteArray} : cmpB a b = 0 ↔ a = b := ⟨fun h => ba_ext (cb_eq.1 h), fun h => cb_eq.2 (by rw [h])⟩
theorem cmpB_anti (a b : ByteArray) : cmpB b a = - cmpB a b := cb_anti
theorem cmpB_trans {a b c : ByteArray} (h1 : cmpB a b < 0) (h2 : cmpB b c < 0) : cmpB a c < 0 := cb_trans h1 h2
theorem cmpB_range (a b : ByteArray) : cmpB a b = -1 ∨ cmpB a b = 0 ∨ cmpB a b = 1 := cb_range _ _
def fCmpStr : Fct := ⟨[aT, aT], [rI], fun _ => True, fun x => (cmpB x.1 x.2.1, ())⟩
def cmpA (a b : SAddr) : Int := if cmpB a.host b.host = 0 then cmpB a.path b.path else cmpB a.host b.host
theorem cmpA_range (a b : SAddr) : cmpA a b = -1 ∨ cmpA a b = 0 ∨ cmpA a b = 1 := by unfold cmpA; split <;> exact cmpB_range _ _
theorem cmpA_eq {a b : SAddr} : cmpA a b = 0 ↔ a = b := by
  obtain ⟨h, p⟩ := a; obtain ⟨h', p'⟩ := b
  simp only [cmpA, SAddr.mk.injEq]
  split
  · rename_i e; rw [cmpB_eq, cmpB_eq.1 e]; simp
  · rename_i e; constructor
    · intro h; exact absurd h e
    · rintro ⟨rfl, _⟩; exact absurd (cmpB_eq.2 rfl) e
theorem cmpA_anti (a b : SAddr) : cmpA b a = - cmpA a b := by
  have h1 := cmpB_anti a.host b.host
  have h2 := cmpB_anti a.path b.path
  unfold cmpA; split <;> split <;> omega
theorem cmpA_trans {a b c : SAddr} (h1 : cmpA a b < 0) (h2 : cmpA b c < 0) : cmpA a c < 0 := by
  unfold cmpA at *
  split at h1
  · rename_i e1
    rw [cmpB_eq.1 e1]
    split at h2
    · rename_i e2; rw [if_pos e2]; exact cmpB_trans h1 h2
    · rename_i e2; rw [if_neg e2]; exact h2
  · rename_i e1
    split at h2
    · rename_i e2
      rw [← cmpB_eq.1 e2, if_neg e1]; exact h1
    · rename_i e2
      have := cmpB_trans h1 h2
      rw [if_neg (by omega)]; exact this
def ltF (cf : SAddr → SAddr → Int) (a b : SAddr) : Bool := decide (cf a b < 0)
theorem ltA (a b : SAddr) : ltF cmpA a b = decide (cmpA a b < 0) := rfl
theorem swoA : SWO (ltF cmpA) where
  irrefl x := by rw [ltA, cmpA_eq.2 rfl]; rfl
  trans x y z h1 h2 := by simp only [ltA, decide_eq_true_eq] at *; exact cmpA_trans h1 h2
  ntrans x y z h1 h2 := by
    simp only [ltA, decide_eq_false_iff_not, Int.not_lt] at *
    have a1 := cmpA_anti x y; have a2 := cmpA_anti y z; have a3 := cmpA_anti x z
    rcases Int.lt_or_eq_of_le h1 with h | h
    · rcases Int.lt_or_eq_of_le h2 with h' | h'
      · have := cmpA_trans (a := z) (b := y) (c := x) (by omega) (by omega); omega
      · rw [← cmpA_eq.1 h'.symm]; omega
    · rw [cmpA_eq.1 h.symm]; omega
theorem totA (x y : SAddr) (h1 : ltF cmpA x y = false) (h2 : ltF cmpA y x = false) : x = y := by
  simp only [ltA, decide_eq_false_iff_not, Int.not_lt] at *
  have := cmpA_anti x y
  exact cmpA_eq.1 (by omega)
/-- a list in strict order -/
abbrev Strict (l : List SAddr) : Prop := l.Pairwise fun a b => cmpA a b < 0
theorem strict_unique : ∀ {l m : List SAddr}, Strict l → Strict m → (∀ a, a ∈ l ↔ a ∈ m) → l = m := by
  intro l
  induction l with
  | nil => intro m _ _ h; cases m with
    | nil => rfl
    | cons b m => exact absurd ((h b).2 List.mem_cons_self) (by simp)
  | cons a l ih =>
    intro m hl hm h
    cases m with
    | nil => exact absurd ((h a).1 List.mem_cons_self) (by simp)
    | cons b m =>
      have hl' := List.pairwise_cons.1 hl
      have hm' := List.pairwise_cons.1 hm
      have hab : a = b := by
        rcases List.mem_cons.1 ((h a).1 List.mem_cons_self) with e | hin
        · exact e
        · rcases List.mem_cons.1 ((h b).2 List.mem_cons_self) with e | hin2
          · exact e.symm
          · have h1 := hm'.1 a hin
            have h2 := hl'.1 b hin2
            have := cmpA_anti a b
            omega
      subst hab
      refine congrArg _ (ih hl'.2 hm'.2 fun x => ⟨fun hx => ?_, fun hx => ?_⟩)
      · rcases List.mem_cons.1 ((h x).1 (List.mem_cons_of_mem _ hx)) with e | hin
        · subst e; have := hl'.1 x hx; rw [cmpA_eq.2 rfl] at this; omega
        · exact hin
      · rcases List.mem_cons.1 ((h x).2 (List.mem_cons_of_mem _ hx)) with e | hin
        · subst e; have := hm'.1 x hx; rw [cmpA_eq.2 rfl] at this; omega
        · exact hin
theorem dedupA_strict : ∀ {l : List SAddr}, l.Pairwise (fun a b => cmpA a b ≤ 0) → Strict (dedupA l) := by
  intro l
  induction l with
  | nil => intro _; exact List.Pairwise.nil
  | cons a l ih =>
    intro h
    cases l with
    | nil => exact List.pairwise_singleton _ _
    | cons b l =>
      have h' := List.pairwise_cons.1 h
      simp only [dedupA]
      split
      · exact ih h'.2
      · rename_i e
        refine List.pairwise_cons.2 ⟨fun x hx => ?_, ih h'.2⟩
        have hx' := dedupA_mem.1 hx
        have hb := h'.1 b List.mem_cons_self
        have hab : cmpA a b < 0 := by
          rcases Int.lt_or_eq_of_le hb with h1 | h1
          · exact h1
          · exact absurd (cmpA_eq.1 h1) e
        rcases List.mem_cons.1 hx' with e2 | hin
        · rw [e2]; exact hab
        · have h2 := (List.pairwise_cons.1 h'.2).1 x hin
          rcases Int.lt_or_eq_of_le h2 with h3 | h3
          · exact cmpA_trans hab h3
          · rw [← cmpA_eq.1 h3]; exact hab
def sortA (l : List SAddr) : List SAddr := l.mergeSort fun a b => !(ltF cmpA) b a
theorem sortA_sorted (l : List SAddr) : (sortA l).Pairwise (fun a b => cmpA a b ≤ 0) := by
  have := List.pairwise_mergeSort (le := fun a b => !(ltF cmpA) b a) (fun a b c h1 h2 => by
    simp only [Bool.not_eq_true'] at *
    exact swoA.ntrans _ _ _ h2 h1) (fun a b => by
    have := cmpA_anti a b
    by_cases h : cmpA a b < 0
    · have : ¬ cmpA b a < 0 := by omega
      simp [ltA, this]
    · simp [ltA, h]) l
  refine this.imp fun {a b} h => ?_
  have h3 := cmpA_anti a b
  simp only [ltA, Bool.not_eq_true', decide_eq_false_iff_not] at h
  omega
def sortAddrs (l : List SAddr) : List SAddr := dedupA (sortA l)
theorem sortAddrs_strict (l : List SAddr) : Strict (sortAddrs l) := dedupA_strict (sortA_sorted l)
theorem sortAddrs_mem {l : List SAddr} {x : SAddr} : x ∈ sortAddrs l ↔ x ∈ l := by
  unfold sortAddrs sortA; rw [dedupA_mem]; exact (List.mergeSort_perm _ _).mem_iff
theorem sortAddrs_unique {l m : List SAddr} (h : Strict m) (hm : ∀ x, x ∈ m ↔ x ∈ l) : m = sortAddrs l :=
  strict_unique h (sortAddrs_strict l) fun a => by rw [hm, sortAddrs_mem]
theorem sortAddrs_len (l : List SAddr) : (sortAddrs l).length ≤ l.length := by
  have := dedupA_len (sortA l)
  have h2 : (sortA l).length = l.length := (List.mergeSort_perm _ _).length_eq
  unfold sortAddrs; omega
/-- an address goes to its place -/
theorem insA_strict {out : List SAddr} {x : SAddr} {at_ : Nat} (hs : Strict out) (hle : at_ ≤ out.length) (hx : x ∉ out) (h1 : at_ = 0 ∨ ¬ cmpA x (out.getD (at_ - 1) default) < 0) (h2 : ∀ y ∈ out.drop at_, cmpA x y < 0) :
    Strict (out.take at_ ++ x :: out.drop at_) := by
  have hsp : out = out.take at_ ++ out.drop at_ := (List.take_append_drop at_ out).symm
  have hp := List.pairwise_append.1 (hsp ▸ hs)
  refine List.pairwise_append.2 ⟨hp.1, List.pairwise_cons.2 ⟨h2, hp.2.1⟩, fun a ha b hb => ?_⟩
  have hax : cmpA a x < 0 := by
    rcases h1 with rfl | h1
    · simp at ha
    · have hlt : at_ - 1 < out.length := by
        rcases Nat.eq_zero_or_pos at_ with h | h
        · subst h; simp at ha
        · omega
      obtain ⟨i, hi, rfl⟩ := List.getElem_of_mem ha
      simp only [List.length_take] at hi
      rw [List.getElem_take]
      have hd : out.getD (at_ - 1) default = out[at_ - 1] := by simp [List.getD_eq_getElem?_getD, hlt]
      rw [hd] at h1
      have hne : cmpA x out[at_ - 1] ≠ 0 := fun h => hx (by rw [cmpA_eq.1 h]; exact List.getElem_mem _)
      have h3 := cmpA_anti x out[at_ - 1]
      rcases Nat.lt_or_eq_of_le (show i ≤ at_ - 1 by omega) with h | h
      · have h4 := List.pairwise_iff_getElem.1 hs i (at_ - 1) (by omega) hlt h
        exact cmpA_trans h4 (by omega)
      · subst h; omega
  rcases List.mem_cons.1 hb with rfl | hb
  · exact hax
  · exact cmpA_trans hax (h2 b hb)
theorem insA_inv {l out : List SAddr} {i a : Nat} (hi : i < l.length) (ha : a ≤ out.length) (hs : Strict out) (hm : ∀ m, m ∈ out ↔ m ∈ l.take i) (hx : (out.any fun c => decide (c = l.getD i default)) = false)
    (h1 : a = 0 ∨ ¬ cmpA (l.getD i default) (out.getD (a - 1) default) < 0) (h2 : ∀ y ∈ out.drop a, cmpA (l.getD i default) y < 0) :
    (cut out 0 (a - 0) ++ [l.getD i default] ++ cut out a (out.length - a)).length = out.length + 1 ∧ Strict (cut out 0 (a - 0) ++ [l.getD i default] ++ cut out a (out.length - a)) ∧ ∀ m, m ∈ (cut out 0 (a - 0) ++ [l.getD i default] ++ cut out a (out.length - a)) ↔ m ∈ l.take (i + 1) := by
  have e : cut out 0 (a - 0) ++ [l.getD i default] ++ cut out a (out.length - a) = out.take a ++ l.getD i default :: out.drop a := by
    have : (out.drop a).take (out.length - a) = out.drop a := List.take_of_length_le (by simp)
    simp [cut, this]
  rw [e]
  have hx' : l.getD i default ∉ out := by
    intro h
    rw [List.any_eq_false] at hx
    exact hx _ h (by simp)
  refine ⟨by simp; omega, insA_strict hs ha hx' h1 h2, fun m => ?_⟩
  rw [insA_mem, hm, mem_take_succ hi]
theorem drop_step {out : List SAddr} {x : SAddr} {a : Nat} (h0 : 0 < a) (ha : a ≤ out.length) (h : cmpA x (out.getD (a - 1) default) < 0) (h2 : ∀ y ∈ out.drop a, cmpA x y < 0) : ∀ y ∈ out.drop (a - 1), cmpA x y < 0 := by
  intro y hy
  rw [drop_cons (show a - 1 < out.length by omega), show a - 1 + 1 = a by omega] at hy
  rcases List.mem_cons.1 hy with e | e
  · rw [e]; exact h
  · exact h2 y e
theorem any_mem {l out : List SAddr} {i : Nat} (hi : i < l.length) (hm : ∀ m, m ∈ out ↔ m ∈ l.take i) (hx : (out.any fun c => decide (c = l.getD i default)) = true) : ∀ m, m ∈ out ↔ m ∈ l.take (i + 1) := by
  intro m
  rw [mem_take_succ hi, hm]
  constructor
  · exact .inr
  · rintro (rfl | h)
    · obtain ⟨c, hc, he⟩ := List.any_eq_true.1 hx
      simp only [decide_eq_true_eq] at he
      rw [← hm, ← he]; exact hc
    · exact h
end Go.D
