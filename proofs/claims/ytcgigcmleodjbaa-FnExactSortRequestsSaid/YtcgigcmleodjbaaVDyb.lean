/-
  A window of an owned tree, handed back as a result: the tree becomes the window.
-/
import Derived.Test.YtcgigcmleodjbaaVDx
namespace Go.D
set_option linter.unusedVariables false
def subAt : List Cell → Nat → Option (Nat × Nat × Nat × Nat × Nat)
  | [], _ => none
  | .sub l k lo n :: _, j => some (j, l, k, lo, n)
  | _ :: cs, j => subAt cs (j + 1)
theorem subAt_get : ∀ {cs : List Cell} {s j l k lo n : Nat}, subAt cs s = some (j, l, k, lo, n) → s ≤ j ∧ cs[j - s]? = some (.sub l k lo n) := by
  intro cs
  induction cs with
  | nil => intro s j l k lo n h; simp [subAt] at h
  | cons c cs ih =>
    intro s j l k lo n h
    cases c with
    | sub l' k' lo' n' =>
      simp only [subAt, Option.some.injEq, Prod.mk.injEq] at h
      obtain ⟨rfl, rfl, rfl, rfl, rfl⟩ := h
      exact ⟨Nat.le_refl _, by simp⟩
    | _ =>
      obtain ⟨h1, h2⟩ := ih (s := s + 1) h
      refine ⟨by omega, ?_⟩
      rw [show j - s = (j - (s + 1)) + 1 by omega]
      simpa using h2
/-- the slot t's cell j is told as the tree l -/
def reCell (σ : St) (t j l : Nat) : St := match look σ.tm t with
  | some (.v agg cs) => σ.put t (.v agg (cs.set j (.ref l)))
  | _ => σ
def settleT : Nat → Nat → St → (St → Out) → Out
  | 0, _, σ, K => K σ
  | m + 1, t, σ, K => match look σ.tm t with
    | some (.v agg cs) => match subAt cs 0 with
      | some (j, l, k, lo, n) => match look σ.hp l with
        | some T => bif decide (T.k = k) && !σ.fl.contains l then .ob (lo + n ≤ T.n) (settleT m t (reCell (retreeSt σ l [] ⟨T.t, cut T.xs lo n⟩) t j l) K) else .bad
        | none => .bad
      | none => K σ
    | _ => K σ
/-- the box b's cell j is told as the tree l -/
def reBox (σ : St) (b j l : Nat) : St := match look σ.bx b with
  | some cs => { σ with bx := D.put σ.bx b (cs.set j (.ref l)) }
  | none => σ
def settleB : Nat → Nat → St → (St → Out) → Out
  | 0, _, σ, K => K σ
  | m + 1, b, σ, K => match look σ.bx b with
    | some cs => match subAt cs 0 with
      | some (j, l, k, lo, n) => match look σ.hp l with
        | some T => bif decide (T.k = k) && !σ.fl.contains l then .ob (lo + n ≤ T.n) (settleB m b (reBox (retreeSt σ l [] ⟨T.t, cut T.xs lo n⟩) b j l) K) else .bad
        | none => .bad
      | none => K σ
    | none => K σ
def settle : List ResultVar → St → (St → Out) → Out
  | [], σ, K => K σ
  | .tmp t :: rs, σ, K => settleT 40 t σ (fun σ' => settle rs σ' K)
  | .cell t _ :: rs, σ, K => match σ.get t with
    | .ptr b 0 => settleB 40 b σ (fun σ' => settle rs σ' K)
    | _ => settle rs σ K
def settleBs : List Nat → St → (St → Out) → Out
  | [], σ, K => K σ
  | b :: bs, σ, K => settleB 40 b σ (fun σ' => settleBs bs σ' K)
def settlePs : List Vr → St → (St → Out) → Out
  | [], σ, K => K σ
  | v :: vs, σ, K => match v.own with
    | true => match v.k with
      | .s => settleT 40 v.p σ (fun σ' => settlePs vs σ' K)
      | .b => settleB 40 v.p σ (fun σ' => settlePs vs σ' K)
      | .t => settlePs vs σ K
    | false => settlePs vs σ K
section
variable {P : Program} {F : Fr P} {G G' : Gh} {σ σ' : St} {a : Act} {w w' : World} {K : St → Out} {Q : Post}
theorem cells_set {cs : List Cell} {vs : Array Value} {j : Nat} {c : Cell} {u : Value} (h : CellsR w G cs vs) (hu : vs[j]? = some u) (hc : CellR w G c u) : CellsR w G (cs.set j c) vs := by
  refine ⟨by simpa using h.1, fun i d hd => ?_⟩
  rw [List.getElem?_set] at hd
  by_cases e : j = i
  · subst e
    simp only [if_true] at hd
    split at hd
    · injection hd with hd; subst hd; exact ⟨u, hu, hc⟩
    · cases hd
  · simp only [e, if_false] at hd
    exact h.2 i d hd
theorem part_set {agg : Bool} {cs : List Cell} {v : Value} {j : Nat} {c : Cell} (h : PartR w G agg cs v) (hc : cs[j]? = some c) : ∃ u, CellR w G c u ∧ ∀ (G' : Gh) (cs' : List Cell) (c' : Cell), PartR w G' agg cs' v → cs'.length = cs.length → CellR w G' c' u → PartR w G' agg (cs'.set j c') v := by
  cases agg with
  | false =>
    obtain ⟨c0, rfl, h⟩ := h
    cases j with
    | zero =>
      simp only [List.getElem?_cons_zero, Option.some.injEq] at hc
      subst hc
      refine ⟨v, h, fun G' cs' c' h' _ hc' => ?_⟩
      obtain ⟨c1, rfl, _⟩ := h'
      exact ⟨c', rfl, hc'⟩
    | succ j => simp at hc
  | true =>
    obtain ⟨vs, hv, h⟩ := h
    obtain ⟨u, hu, hr⟩ := h.2 j c hc
    refine ⟨u, hr, fun G' cs' c' h' _ hc' => ?_⟩
    obtain ⟨vs', hv', h'⟩ := h'
    rw [hv] at hv'
    injection hv' with hv'
    subst hv'
    exact ⟨vs, hv, cells_set h' hu hc'⟩
theorem settle1 {t j l k lo n : Nat} {agg : Bool} {cs : List Cell} {T : Tree} (h : RG F G σ a w) (ht : look σ.tm t = some (.v agg cs)) (hj : cs[j]? = some (.sub l k lo n)) (hT : look σ.hp l = some T) (hk : T.k = k) (hfl : l ∉ σ.fl) (hle : lo + n ≤ T.n) :
    ∃ G', RG F G' (reCell (retreeSt σ l [] ⟨T.t, cut T.xs lo n⟩) t j l) a w := by
  obtain ⟨u, hu, hset⟩ := part_set (h.tm t _ ht) hj
  have h1 : u.oneCell' = true := CellR.one hu
  subst hk
  have hto := to_cut (sub_own (h.hp l T hT) hu hle) hle
  rw [fcC_tree ⟨T.t, cut T.xs lo n⟩] at hto
  obtain ⟨G', h2, h3, _⟩ := h.retree l [] ⟨T.t, cut T.xs lo n⟩ u (fun g => G.ow g = .lab l) ⟨rfl, rfl, ⟨rfl, by first | exact Nat.le_refl _ | exact Nat.le_succ _⟩, Nat.le_refl _⟩ (fun _ _ _ => rfl) (fun g hg => ⟨h.lt g (by rw [hg]; intro e; cases e), .inr (.inl hg)⟩) hto hfl (by simp)
  have hlk : look (retreeSt σ l [] ⟨T.t, cut T.xs lo n⟩).tm t = some (.v agg (cs.map (·.kill [l]))) := by
    simp only [retreeSt, St.kill, St.map]
    rw [look_map (fun x : TV => x.kill [l]), ht]
    rfl
  refine ⟨G', ?_⟩
  unfold reCell
  rw [hlk]
  refine RG.retell h2 ?_
  exact hset G' _ _ (h2.tm t _ hlk) (by simp) ⟨h3.symm, h1⟩
theorem settleT_ok : ∀ (m t : Nat) (σ : St) (G : Gh) (K : St → Out), RG F G σ a w → (settleT m t σ K).holds Q → ∃ σ' G', RG F G' σ' a w ∧ (K σ').holds Q := by
  intro m
  induction m with
  | zero => intro t σ G K h hh; exact ⟨σ, G, h, hh⟩
  | succ m ih =>
    intro t σ G K h hh
    unfold settleT at hh
    split at hh
    · rename_i agg cs ht
      split at hh
      · rename_i j l k lo n hs
        split at hh
        · rename_i T hT
          cases hc : (decide (T.k = k) && !σ.fl.contains l) with
          | false => rw [hc, cond_false] at hh; exact hh.elim
          | true =>
            rw [hc, cond_true] at hh
            simp only [Bool.and_eq_true, decide_eq_true_eq, Bool.not_eq_true'] at hc
            obtain ⟨hle, hh⟩ := hh
            obtain ⟨_, hj⟩ := subAt_get hs
            obtain ⟨G', h'⟩ := settle1 h ht (by simpa using hj) hT hc.1 (by simpa using hc.2) hle
            exact ih t _ G' K h' hh
        · exact hh.elim
      · exact ⟨σ, G, h, hh⟩
    · exact ⟨σ, G, h, hh⟩
theorem RG.rebox (h : RG F G σ a w) {b : Nat} {cs : List Cell} (h1 : G.ow (G.be b) = .box b) {r : Array Value} {e : TypeId} (h2 : w.heap[G.be b]? = some (.cells r e (0, 0))) (h3 : CellsR w G cs r) : RG F G { σ with bx := D.put σ.bx b cs } a w := by
  refine ⟨h.tm, ?_, h.hp, h.lt, h.os, h.tape, h.output, h.size, h.keep, h.fb, h.fl, h.nt, h.df⟩
  intro b' cs' hl
  simp only [look_put] at hl
  by_cases hb : b' = b
  · subst hb
    simp only [if_true, Option.some.injEq] at hl
    subst hl
    exact ⟨h1, r, e, h2, h3⟩
  · simp only [hb, if_false] at hl
    exact h.bx b' cs' hl
theorem settle2 {b j l k lo n : Nat} {cs : List Cell} {T : Tree} (h : RG F G σ a w) (hb : look σ.bx b = some cs) (hj : cs[j]? = some (.sub l k lo n)) (hT : look σ.hp l = some T) (hk : T.k = k) (hfl : l ∉ σ.fl) (hle : lo + n ≤ T.n) :
    ∃ G', RG F G' (reBox (retreeSt σ l [] ⟨T.t, cut T.xs lo n⟩) b j l) a w := by
  obtain ⟨ow, r, e, hr, hc⟩ := h.bx b cs hb
  obtain ⟨u, hu, hcu⟩ := hc.2 j _ hj
  have h1 : u.oneCell' = true := CellR.one hcu
  subst hk
  have hto := to_cut (sub_own (h.hp l T hT) hcu hle) hle
  rw [fcC_tree ⟨T.t, cut T.xs lo n⟩] at hto
  obtain ⟨G', h2, h3, _, _, h4, _⟩ := h.retree l [] ⟨T.t, cut T.xs lo n⟩ u (fun g => G.ow g = .lab l) ⟨rfl, rfl, ⟨rfl, by first | exact Nat.le_refl _ | exact Nat.le_succ _⟩, Nat.le_refl _⟩ (fun _ _ _ => rfl) (fun g hg => ⟨h.lt g (by rw [hg]; intro e; cases e), .inr (.inl hg)⟩) hto hfl (by simp)
  have hlk : look (retreeSt σ l [] ⟨T.t, cut T.xs lo n⟩).bx b = some (cs.map (·.kill [l])) := by
    simp only [retreeSt, St.kill, St.map]
    rw [look_map (fun x : List Cell => x.map (·.kill [l])), hb]
    rfl
  obtain ⟨ow', r', e', hr', hc'⟩ := h2.bx b _ hlk
  refine ⟨G', ?_⟩
  unfold reBox
  rw [hlk]
  have hr2 := hr'
  rw [h4, hr] at hr2
  injection hr2 with hr2
  injection hr2 with e1 e2 e3
  subst e1
  exact RG.rebox h2 ow' hr' (cells_set hc' hu ⟨h3.symm, h1⟩)
theorem settleB_ok : ∀ (m b : Nat) (σ : St) (G : Gh) (K : St → Out), RG F G σ a w → (settleB m b σ K).holds Q → ∃ σ' G', RG F G' σ' a w ∧ (K σ').holds Q := by
  intro m
  induction m with
  | zero => intro b σ G K h hh; exact ⟨σ, G, h, hh⟩
  | succ m ih =>
    intro b σ G K h hh
    unfold settleB at hh
    split at hh
    · rename_i cs hb
      split at hh
      · rename_i j l k lo n hs
        split at hh
        · rename_i T hT
          cases hc : (decide (T.k = k) && !σ.fl.contains l) with
          | false => rw [hc, cond_false] at hh; exact hh.elim
          | true =>
            rw [hc, cond_true] at hh
            simp only [Bool.and_eq_true, decide_eq_true_eq, Bool.not_eq_true'] at hc
            obtain ⟨hle, hh⟩ := hh
            obtain ⟨_, hj⟩ := subAt_get hs
            obtain ⟨G', h'⟩ := settle2 h hb (by simpa using hj) hT hc.1 (by simpa using hc.2) hle
            exact ih b _ G' K h' hh
        · exact hh.elim
      · exact ⟨σ, G, h, hh⟩
    · exact ⟨σ, G, h, hh⟩
theorem settle_ok : ∀ (rs : List ResultVar) (σ : St) (G : Gh) (K : St → Out), RG F G σ a w → (settle rs σ K).holds Q → ∃ σ' G', RG F G' σ' a w ∧ (K σ').holds Q := by
  intro rs
  induction rs with
  | nil => intro σ G K h hh; exact ⟨σ, G, h, hh⟩
  | cons r rs ih =>
    intro σ G K h hh
    cases r with
    | tmp t =>
      obtain ⟨σ1, G1, h1, hh1⟩ := settleT_ok 40 t σ G _ h hh
      exact ih σ1 G1 K h1 hh1
    | cell t T =>
      simp only [settle] at hh
      split at hh
      · obtain ⟨σ1, G1, h1, hh1⟩ := settleB_ok 40 _ σ G _ h hh
        exact ih σ1 G1 K h1 hh1
      · exact ih σ G K h hh
theorem settleBs_ok : ∀ (bs : List Nat) (σ : St) (G : Gh) (K : St → Out), RG F G σ a w → (settleBs bs σ K).holds Q → ∃ σ' G', RG F G' σ' a w ∧ (K σ').holds Q := by
  intro bs
  induction bs with
  | nil => intro σ G K h hh; exact ⟨σ, G, h, hh⟩
  | cons b bs ih =>
    intro σ G K h hh
    obtain ⟨σ1, G1, h1, hh1⟩ := settleB_ok 40 b σ G _ h hh
    exact ih σ1 G1 K h1 hh1
theorem settlePs_ok : ∀ (vs : List Vr) (σ : St) (G : Gh) (K : St → Out), RG F G σ a w → (settlePs vs σ K).holds Q → ∃ σ' G', RG F G' σ' a w ∧ (K σ').holds Q := by
  intro vs
  induction vs with
  | nil => intro σ G K h hh; exact ⟨σ, G, h, hh⟩
  | cons v vs ih =>
    intro σ G K h hh
    unfold settlePs at hh
    split at hh
    · split at hh
      · obtain ⟨σ1, G1, h1, hh1⟩ := settleT_ok 40 _ σ G _ h hh
        exact ih σ1 G1 K h1 hh1
      · obtain ⟨σ1, G1, h1, hh1⟩ := settleB_ok 40 _ σ G _ h hh
        exact ih σ1 G1 K h1 hh1
      · exact ih σ G K h hh
    · exact ih σ G K h hh
end
end Go.D
