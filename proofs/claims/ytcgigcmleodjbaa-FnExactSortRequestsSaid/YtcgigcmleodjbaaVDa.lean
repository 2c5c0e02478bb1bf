/-
  Contents of memory as pure data, and what it means that a Go value reads as such a content in a world: TR (may be shared), TO (owned: no other tree meets its blocks).
-/
import Derived.Calls
import Derived.Orders
import Derived.Below
import Derived.Laws.AppendOwn
import Derived.Laws.MakeOwn
import Derived.KernelRfl
import Derived.ChangeAgain
import Derived.Lib.LaidTab
import Derived.Lib.ItoaNum
namespace Go.D
set_option linter.unusedVariables false
/-- the content of a cell: a plain value; nil; n rows of k cells -/
inductive C where
  | val (v : Value)
  | nl
  | sl (k n : Nat) (f : Nat → Nat → C)
instance : Inhabited C := ⟨.nl⟩
def plain : Value → Bool
  | .bool _ | .int _ _ | .string _ => true
  | _ => false
/-- the value v reads as the content in w; every block that is met is in S -/
def TR (w : World) (S : Nat → Prop) : C → Value → Prop
  | .val u, v => v = u ∧ plain u = true
  | .nl, v => v = .slice none 0 0
  | .sl k n f, v => ∃ a cap, v = .slice a n cap ∧ n ≤ cap ∧ (n = 0 ∨ ∃ g o row e fr, a = some ⟨g, o, none⟩ ∧ S g ∧ w.heap[g]? = some (.cells row e fr) ∧
      ∀ i, i < n → ∀ j, j < k → ∃ u, row[o + i * k + j]? = some u ∧ TR w S (f i j) u)
/-- the same, owned: the blocks are in F, and no two places of the tree meet -/
def TO (w : World) : C → Value → (Nat → Prop) → Prop
  | .val u, v, _ => v = u ∧ plain u = true
  | .nl, v, _ => v = .slice none 0 0
  | .sl k n f, v, F => ((∃ ad, v = .slice ad 0 0) ∧ n = 0) ∨ ∃ g o cap row e, ∃ G : Nat → Nat → Nat → Prop, v = .slice (some ⟨g, o, none⟩) n cap ∧ n ≤ cap ∧ o + cap * k ≤ row.size ∧
      w.heap[g]? = some (.cells row e (0, 0)) ∧ F g ∧
      (∀ i, i < n → ∀ j, j < k → ∃ u, row[o + i * k + j]? = some u ∧ TO w (f i j) u (G i j)) ∧
      (∀ i, i < n → ∀ j, j < k → ∀ b, G i j b → F b ∧ b ≠ g) ∧
      (∀ i, i < n → ∀ j, j < k → ∀ i', i' < n → ∀ j', j' < k → ∀ b, G i j b → G i' j' b → i = i' ∧ j = j')
/-- the second content says no more than the first -/
def le : C → C → Prop
  | .val u, d => d = .val u
  | .nl, d => d = .nl ∨ ∃ k f, d = .sl k 0 f
  | .sl k n f, d => ∃ f', d = .sl k n f' ∧ ∀ i, i < n → ∀ j, j < k → le (f i j) (f' i j)
theorem le.refl (c : C) : le c c := by
  induction c with
  | val v => rfl
  | nl => exact .inl rfl
  | sl k n f ih => exact ⟨f, rfl, fun i _ j _ => ih i j⟩
theorem TR.frame {w w' : World} {S S' : Nat → Prop} {c : C} : ∀ {v : Value}, (∀ g, S g → (∃ o, w.heap[g]? = some o) → w'.heap[g]? = w.heap[g]? ∧ S' g) → TR w S c v → TR w' S' c v := by
  induction c with
  | val u => intro v _ h; exact h
  | nl => intro v _ h; exact h
  | sl k n f ih =>
    intro v hs ⟨a, cap, hv, hc, h⟩
    refine ⟨a, cap, hv, hc, ?_⟩
    rcases h with h | ⟨g, o, row, e, fr, ha, hS, hg, h⟩
    · exact .inl h
    · obtain ⟨h1, h2⟩ := hs g hS ⟨_, hg⟩
      exact .inr ⟨g, o, row, e, fr, ha, h2, h1.trans hg, fun i hi j hj => let ⟨u, hu, ht⟩ := h i hi j hj; ⟨u, hu, ih i j hs ht⟩⟩
theorem TO.frame {w w' : World} {c : C} : ∀ {v : Value} {F F' : Nat → Prop}, (∀ g, F g → (∃ o, w.heap[g]? = some o) → w'.heap[g]? = w.heap[g]? ∧ F' g) → TO w c v F → TO w' c v F' := by
  induction c with
  | val u => intro v F F' _ h; exact h
  | nl => intro v F F' _ h; exact h
  | sl k n f ih =>
    intro v F F' hs h
    rcases h with h | ⟨g, o, cap, row, e, G, hv, hn, hc, hg, hF, h, hsub, hdis⟩
    · exact .inl h
    · obtain ⟨h1, h2⟩ := hs g hF ⟨_, hg⟩
      refine .inr ⟨g, o, cap, row, e, fun i j b => G i j b ∧ F' b, hv, hn, hc, h1.trans hg, h2, fun i hi j hj => ?_, fun i hi j hj b hb => ⟨hb.2, (hsub i hi j hj b hb.1).2⟩, fun i hi j hj i' hi' j' hj' b hb hb' => hdis i hi j hj i' hi' j' hj' b hb.1 hb'.1⟩
      obtain ⟨u, hu, ht⟩ := h i hi j hj
      exact ⟨u, hu, ih i j (fun b hb hex => let ⟨x, y⟩ := hs b (hsub i hi j hj b hb).1 hex; ⟨x, hb, y⟩) ht⟩
theorem TO.read {w : World} {c : C} : ∀ {v : Value} {F : Nat → Prop}, TO w c v F → TR w F c v := by
  induction c with
  | val u => intro v F h; exact h
  | nl => intro v F h; exact h
  | sl k n f ih =>
    intro v F h
    rcases h with ⟨⟨ad, rfl⟩, rfl⟩ | ⟨g, o, cap, row, e, G, hv, hn, hc, hg, hF, h, hsub, hdis⟩
    · exact ⟨ad, 0, rfl, Nat.le_refl _, .inl rfl⟩
    · refine ⟨_, cap, hv, hn, .inr ⟨g, o, row, e, (0, 0), rfl, hF, hg, fun i hi j hj => ?_⟩⟩
      obtain ⟨u, hu, ht⟩ := h i hi j hj
      exact ⟨u, hu, (ih i j ht).frame fun b hb _ => ⟨rfl, (hsub i hi j hj b hb).1⟩⟩
theorem TR.le {w : World} {S : Nat → Prop} {c : C} : ∀ {d : C} {v : Value}, le c d → TR w S c v → TR w S d v := by
  induction c with
  | val u => intro d v hl h; obtain rfl := hl; exact h
  | nl =>
    intro d v hl h
    rcases hl with rfl | ⟨k, f, rfl⟩
    · exact h
    · exact ⟨none, 0, h, Nat.le_refl _, .inl rfl⟩
  | sl k n f ih =>
    intro d v hl h
    obtain ⟨f', rfl, hl⟩ := hl
    obtain ⟨a, cap, hv, hc, h⟩ := h
    refine ⟨a, cap, hv, hc, ?_⟩
    rcases h with h | ⟨g, o, row, e, fr, ha, hS, hg, h⟩
    · exact .inl h
    · exact .inr ⟨g, o, row, e, fr, ha, hS, hg, fun i hi j hj => let ⟨u, hu, ht⟩ := h i hi j hj; ⟨u, hu, ih i j (hl i hi j hj) ht⟩⟩
theorem TO.le {w : World} {c : C} : ∀ {d : C} {v : Value} {F : Nat → Prop}, le c d → TO w c v F → TO w d v F := by
  induction c with
  | val u => intro d v F hl h; obtain rfl := hl; exact h
  | nl =>
    intro d v F hl h
    rcases hl with rfl | ⟨k, f, rfl⟩
    · exact h
    · exact .inl ⟨⟨none, h⟩, rfl⟩
  | sl k n f ih =>
    intro d v F hl h
    obtain ⟨f', rfl, hl⟩ := hl
    rcases h with h | ⟨g, o, cap, row, e, G, hv, hn, hc, hg, hF, h, hsub, hdis⟩
    · exact .inl h
    · exact .inr ⟨g, o, cap, row, e, G, hv, hn, hc, hg, hF, fun i hi j hj => let ⟨u, hu, ht⟩ := h i hi j hj; ⟨u, hu, ih i j (hl i hi j hj) ht⟩, hsub, hdis⟩
theorem TR.one {w : World} {S : Nat → Prop} {c : C} {v : Value} (h : TR w S c v) : v.oneCell' = true := by
  cases c with
  | val u => obtain ⟨rfl, h⟩ := h; cases v <;> simp_all [plain, Value.oneCell']
  | nl => obtain rfl := h; rfl
  | sl k n f => obtain ⟨a, cap, rfl, _⟩ := h; rfl
end Go.D
