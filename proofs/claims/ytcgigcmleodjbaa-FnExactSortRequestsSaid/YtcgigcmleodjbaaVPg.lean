/-
  A stable sort by a key: insertion, binary search, the merge of two sorted ranges.
-/
import Derived.Test.YtcgigcmleodjbaaVPe
namespace Go.D
set_option linter.unusedVariables false
set_option linter.unusedSectionVars false
section
variable {α : Type} [Inhabited α] {κ : α → Int}
theorem sortR_sortR {l : List α} {a b c d : Nat} (h1 : a ≤ c) (h2 : c ≤ d) (h3 : d ≤ b) (hb : b ≤ l.length) : sortR κ a b (sortR κ c d l) = sortR κ a b l := by
  have e := sortR_len (κ := κ) h2 (show d ≤ l.length by omega)
  refine sortR_uniq (by omega) hb ?_ (fun k hk ho => ?_) ?_ ?_
  · rw [sortR_len (by omega) (by omega), e]
  · rw [sortR_out (by omega) (by omega) ho, sortR_out h2 (by omega) (by omega)]
  · exact sortR_srt (by omega) (by omega)
  · exact (sortR_sim h2).trans (sortR_sim (by omega))
/-- a rotation inside a range that leaves it sorted sorts it -/
theorem rot_sorts {l : List α} {a b x m y : Nat} (h1 : a ≤ x) (h2 : x ≤ m) (h3 : m ≤ y) (h4 : y ≤ b) (hb : b ≤ l.length) (hk : ∀ i j, x ≤ i → i < m → m ≤ j → j < y → κ (l.getD j default) < κ (l.getD i default))
    (hs : SrtIn κ (rotR l x m y) a b) : rotR l x m y = sortR κ a b l := by
  refine sortR_uniq (by omega) hb (rotR_len ..) (fun k hk ho => ?_) hs (rot_sim h2 h3 (by omega) hk)
  rw [rotR_get hk]
  unfold roI
  rw [if_neg (by omega), if_neg (by omega)]
theorem ins_step {l : List α} {a j i : Nat} (h1 : a ≤ j) (h2 : j ≤ i) (hi : i < l.length) (hs : SrtIn κ l a i) (hg : ∀ k, j ≤ k → k < i → κ (l.getD i default) < κ (l.getD k default)) (hle : j = a ∨ κ (l.getD (j - 1) default) ≤ κ (l.getD i default)) :
    rotR l j i (i + 1) = sortR κ a (i + 1) l := by
  refine rot_sorts h1 h2 (by omega) (Nat.le_refl _) hi (fun x y hx1 hx2 hy1 hy2 => ?_) fun x y hx hxy hy => ?_
  · have : y = i := by omega
    subst this; exact hg x hx1 hx2
  · rw [rotR_get (by omega), rotR_get (by omega)]
    have low : ∀ k, a ≤ k → k < j → κ (l.getD k default) ≤ κ (l.getD i default) := fun k hk1 hk2 => by
      rcases hle with e | h
      · omega
      · exact Int.le_trans (hs k (j - 1) hk1 (by omega) (by omega)) h
    rcases Nat.lt_trichotomy x j with c1 | c1 | c1
    · rcases Nat.lt_trichotomy y j with c2 | c2 | c2
      · rw [show roI j i (i + 1) x = x by unfold roI; rw [if_neg (by omega), if_neg (by omega)], show roI j i (i + 1) y = y by unfold roI; rw [if_neg (by omega), if_neg (by omega)]]
        exact hs x y hx hxy (by omega)
      · rw [show roI j i (i + 1) x = x by unfold roI; rw [if_neg (by omega), if_neg (by omega)], show roI j i (i + 1) y = i by unfold roI; rw [if_pos (by omega)]; omega]
        exact low x hx c1
      · rw [show roI j i (i + 1) x = x by unfold roI; rw [if_neg (by omega), if_neg (by omega)], show roI j i (i + 1) y = y - 1 by unfold roI; rw [if_neg (by omega), if_pos (by omega)]; omega]
        exact hs x (y - 1) hx (by omega) (by omega)
    · subst c1
      rcases Nat.eq_or_lt_of_le hxy with c2 | c2
      · subst c2; exact Int.le_refl _
      · rw [show roI x i (i + 1) x = i by unfold roI; rw [if_pos (by omega)]; omega, show roI x i (i + 1) y = y - 1 by unfold roI; rw [if_neg (by omega), if_pos (by omega)]; omega]
        exact Int.le_of_lt (hg (y - 1) (by omega) (by omega))
    · rw [show roI j i (i + 1) x = x - 1 by unfold roI; rw [if_neg (by omega), if_pos (by omega)]; omega, show roI j i (i + 1) y = y - 1 by unfold roI; rw [if_neg (by omega), if_pos (by omega)]; omega]
      exact hs (x - 1) (y - 1) (by omega) (by omega) (by omega)
/-- the first of a range goes behind what is less -/
theorem merge_one {l : List α} {a i b : Nat} (h1 : a + 1 ≤ i) (h2 : i ≤ b) (hb : b ≤ l.length) (hs : SrtIn κ l (a + 1) b) (hl : ∀ k, a + 1 ≤ k → k < i → κ (l.getD k default) < κ (l.getD a default)) (hg : ∀ k, i ≤ k → k < b → κ (l.getD a default) ≤ κ (l.getD k default)) :
    rotR l a (a + 1) i = sortR κ a b l := by
  refine rot_sorts (Nat.le_refl _) (by omega) h1 h2 hb (fun x y hx1 hx2 hy1 hy2 => ?_) fun x y hx hxy hy => ?_
  · have : x = a := by omega
    subst this; exact hl y hy1 hy2
  · rw [rotR_get (by omega), rotR_get (by omega)]
    have e : ∀ k, a ≤ k → k < b → (k + 1 < i ∧ roI a (a + 1) i k = k + 1) ∨ (k + 1 = i ∧ roI a (a + 1) i k = a) ∨ (i ≤ k ∧ roI a (a + 1) i k = k) := fun k hk1 hk2 => by
      unfold roI
      repeat' split
      all_goals omega
    rcases e x hx (by omega) with ⟨c1, e1⟩ | ⟨c1, e1⟩ | ⟨c1, e1⟩ <;> rcases e y (by omega) hy with ⟨c2, e2⟩ | ⟨c2, e2⟩ | ⟨c2, e2⟩ <;> rw [e1, e2]
    · exact hs _ _ (by omega) (by omega) (by omega)
    · exact Int.le_of_lt (hl _ (by omega) (by omega))
    · exact hs _ _ (by omega) (by omega) (by omega)
    · omega
    · exact Int.le_refl _
    · exact hg _ (by omega) (by omega)
    · omega
    · omega
    · exact hs _ _ (by omega) (by omega) (by omega)
/-- the last of a range goes ahead of what is greater -/
theorem merge_last {l : List α} {a i m : Nat} (h1 : a ≤ i) (h2 : i ≤ m) (hb : m + 1 ≤ l.length) (hs : SrtIn κ l a m) (hl : ∀ k, a ≤ k → k < i → κ (l.getD k default) ≤ κ (l.getD m default)) (hg : ∀ k, i ≤ k → k < m → κ (l.getD m default) < κ (l.getD k default)) :
    rotR l i m (m + 1) = sortR κ a (m + 1) l := by
  refine ins_step h1 h2 (by omega) hs hg ?_
  by_cases e : i = a
  · exact .inl e
  · exact .inr (hl _ (by omega) (by omega))
/-- what holds of the list behind the rotation in the midst of a merge -/
structure MidK (κ : α → Int) (l d : List α) (a mid b : Nat) : Prop where
  len : d.length = l.length
  out : ∀ k, k < l.length → k < a ∨ b ≤ k → d.getD k default = l.getD k default
  sim : SimK κ l d
  le : ∀ i j, a ≤ i → i < mid → mid ≤ j → j < b → κ (d.getD i default) ≤ κ (d.getD j default)
theorem MidK.left {l d : List α} {a mid b : Nat} (h : MidK κ l d a mid b) (h1 : a ≤ mid) (h2 : mid ≤ b) (hb : b ≤ l.length) : MidK κ l (sortR κ a mid d) a mid b := by
  have hl := h.len
  refine ⟨by rw [sortR_len h1 (by omega), hl], fun k hk ho => ?_, h.sim.trans (sortR_sim h1), fun i j hi1 hi2 hj1 hj2 => ?_⟩
  · rw [sortR_out h1 (by omega) (by omega)]; exact h.out k hk ho
  · obtain ⟨k', q1, q2, q3⟩ := sortR_in (κ := κ) h1 (show mid ≤ d.length by omega) hi1 hi2
    rw [q3, sortR_out h1 (by omega) (.inr hj1)]
    exact h.le _ _ q1 q2 hj1 hj2
theorem MidK.right {l d : List α} {a mid b : Nat} (h : MidK κ l d a mid b) (h1 : a ≤ mid) (h2 : mid ≤ b) (hb : b ≤ l.length) : MidK κ l (sortR κ mid b d) a mid b := by
  have hl := h.len
  refine ⟨by rw [sortR_len h2 (by omega), hl], fun k hk ho => ?_, h.sim.trans (sortR_sim h2), fun i j hi1 hi2 hj1 hj2 => ?_⟩
  · rw [sortR_out h2 (by omega) (by omega)]; exact h.out k hk ho
  · obtain ⟨k', q1, q2, q3⟩ := sortR_in (κ := κ) h2 (show b ≤ d.length by omega) hj1 hj2
    rw [q3, sortR_out h2 (by omega) (.inl hi2)]
    exact h.le _ _ hi1 hi2 q1 q2
theorem MidK.done {l d : List α} {a mid b : Nat} (h : MidK κ l d a mid b) (h1 : a ≤ mid) (h2 : mid ≤ b) (hb : b ≤ l.length) (hs1 : SrtIn κ d a mid) (hs2 : SrtIn κ d mid b) : d = sortR κ a b l := by
  refine sortR_uniq (by omega) hb h.len h.out (fun i j hi hij hj => ?_) h.sim
  by_cases c1 : j < mid
  · exact hs1 i j hi hij c1
  · by_cases c2 : mid ≤ i
    · exact hs2 i j c2 hij hj
    · exact h.le i j hi (by omega) (by omega) hj
theorem srt_keep {l : List α} {a mid b : Nat} (h1 : a ≤ mid) (h2 : mid ≤ b) (hb : b ≤ l.length) (hs : SrtIn κ l a mid) : SrtIn κ (sortR κ mid b l) a mid := by
  intro i j hi hij hj
  rw [sortR_out h2 hb (.inl (by omega)), sortR_out h2 hb (.inl hj)]
  exact hs i j hi hij hj
/-- start: where the search in the midst of a merge ends -/
structure SymAt (κ : α → Int) (l : List α) (a m b mid s : Nat) : Prop where
  lo1 : a ≤ s
  lo2 : mid + m ≤ b + s
  hi1 : s ≤ mid
  hi2 : s ≤ m
  ge : ∀ c, a ≤ c → mid + m ≤ b + c → c < s → κ (l.getD c default) ≤ κ (l.getD (mid + m - 1 - c) default)
  lt : ∀ c, s ≤ c → c < mid → c < m → κ (l.getD (mid + m - 1 - c) default) < κ (l.getD c default)
theorem sym_mid {l : List α} {a m b mid s : Nat} (h : SymAt κ l a m b mid s) (ham : a ≤ m) (hmb : m ≤ b) (hmid : a ≤ mid) (hmid2 : mid ≤ b) (hb : b ≤ l.length) (hs1 : SrtIn κ l a m) (hs2 : SrtIn κ l m b) :
    MidK κ l (rotR l s m (mid + m - s)) a mid b ∧ SrtIn κ (rotR l s m (mid + m - s)) a s ∧ SrtIn κ (rotR l s m (mid + m - s)) s mid ∧ SrtIn κ (rotR l s m (mid + m - s)) mid (mid + m - s) ∧ SrtIn κ (rotR l s m (mid + m - s)) (mid + m - s) b := by
  obtain ⟨lo1, lo2, hi1, hi2, ge, lt⟩ := h
  -- of the left range from s, and of the right range up to the end
  have AB : ∀ i j, s ≤ i → i < m → m ≤ j → j < mid + m - s → κ (l.getD j default) < κ (l.getD i default) := fun i j q1 q2 q3 q4 => by
    have h1 := lt s (Nat.le_refl _) (by omega) (by omega)
    have h2 := hs1 s i (by omega) q1 q2
    have h3 := hs2 j (mid + m - 1 - s) q3 (by omega) (by omega)
    omega
  have XY : ∀ i j, a ≤ i → i < s → mid + m - s ≤ j → j < b → κ (l.getD i default) ≤ κ (l.getD j default) := fun i j q1 q2 q3 q4 => by
    have h1 := ge (s - 1) (by omega) (by omega) (by omega)
    have h2 := hs1 i (s - 1) q1 (by omega) (by omega)
    have h3 := hs2 (mid + m - 1 - (s - 1)) j (by omega) (by omega) q4
    omega
  have e1 : ∀ k, k < s → roI s m (mid + m - s) k = k := fun k hk => by unfold roI; rw [if_neg (by omega), if_neg (by omega)]
  have e2 : ∀ k, s ≤ k → k < mid → roI s m (mid + m - s) k = k - s + m := fun k hk hk2 => by unfold roI; rw [if_pos (by omega)]
  have e3 : ∀ k, mid ≤ k → k < mid + m - s → roI s m (mid + m - s) k = k - mid + s := fun k hk hk2 => by unfold roI; rw [if_neg (by omega), if_pos (by omega)]; omega
  have e4 : ∀ k, mid + m - s ≤ k → roI s m (mid + m - s) k = k := fun k hk => by unfold roI; rw [if_neg (by omega), if_neg (by omega)]
  refine ⟨⟨rotR_len .., fun k hk ho => ?_, rot_sim hi2 (by omega) (by omega) AB, fun i j q1 q2 q3 q4 => ?_⟩, ?_, ?_, ?_, ?_⟩
  · rw [rotR_get hk]
    rcases ho with ho | ho
    · rw [e1 k (by omega)]
    · rw [e4 k (by omega)]
  · rw [rotR_get (by omega), rotR_get (by omega)]
    by_cases c1 : i < s <;> by_cases c2 : j < mid + m - s
    · rw [e1 i c1, e3 j q3 c2]; exact hs1 _ _ q1 (by omega) (by omega)
    · rw [e1 i c1, e4 j (by omega)]; exact XY _ _ q1 c1 (by omega) q4
    · rw [e2 i (by omega) q2, e3 j q3 c2]; exact Int.le_of_lt (AB _ _ (by omega) (by omega) (by omega) (by omega))
    · rw [e2 i (by omega) q2, e4 j (by omega)]; exact hs2 _ _ (by omega) (by omega) q4
  · intro i j q1 q2 q3
    rw [rotR_get (by omega), rotR_get (by omega), e1 i (by omega), e1 j q3]
    exact hs1 _ _ q1 q2 (by omega)
  · intro i j q1 q2 q3
    rw [rotR_get (by omega), rotR_get (by omega), e2 i q1 (by omega), e2 j (by omega) q3]
    exact hs2 _ _ (by omega) (by omega) (by omega)
  · intro i j q1 q2 q3
    rw [rotR_get (by omega), rotR_get (by omega), e3 i q1 (by omega), e3 j (by omega) q3]
    exact hs1 _ _ (by omega) (by omega) (by omega)
  · intro i j q1 q2 q3
    rw [rotR_get (by omega), rotR_get (by omega), e4 i q1, e4 j (by omega)]
    exact hs2 _ _ (by omega) q2 q3
theorem srt_nil {l : List α} {a b : Nat} (h : b ≤ a) : SrtIn κ l a b := fun i j h1 h2 h3 => by omega
theorem srt_one {l : List α} {a : Nat} : SrtIn κ l a (a + 1) := fun i j h1 h2 h3 => by
  have : i = j := by omega
  subst this; exact Int.le_refl _
theorem srt_sub {l : List α} {a b c d : Nat} (h : SrtIn κ l a b) (h1 : a ≤ c) (h2 : d ≤ b) : SrtIn κ l c d := fun i j q1 q2 q3 => h i j (by omega) q2 (by omega)
/-- the merge's end -/
theorem sym_end {l : List α} {a m b mid s : Nat} (h : SymAt κ l a m b mid s) (ham : a ≤ m) (hmb : m ≤ b) (hmid : a ≤ mid) (hmid2 : mid ≤ b) (hb : b ≤ l.length) (hs1 : SrtIn κ l a m) (hs2 : SrtIn κ l m b) {d1 d2 d3 : List α}
    (e1 : d1 = rotR l s m (mid + m - s)) (e2 : d2 = if a < s ∧ s < mid then sortR κ a mid d1 else d1) (e3 : d3 = if mid < mid + m - s ∧ mid + m - s < b then sortR κ mid b d2 else d2) : d3 = sortR κ a b l := by
  obtain ⟨k1, k2, k3, k4, k5⟩ := sym_mid h ham hmb hmid hmid2 hb hs1 hs2
  obtain ⟨lo1, lo2, hi1, hi2, ge, lt⟩ := h
  rw [← e1] at k1 k2 k3 k4 k5
  have m2 : MidK κ l d2 a mid b ∧ SrtIn κ d2 a mid := by
    subst e2
    split
    · exact ⟨k1.left hmid hmid2 hb, sortR_srt hmid (by rw [k1.len]; omega)⟩
    · refine ⟨k1, ?_⟩
      by_cases c : s = a
      · subst c; exact k3
      · have : s = mid := by omega
        subst this; exact k2
  have r2 : ¬ (mid < mid + m - s ∧ mid + m - s < b) → SrtIn κ d2 mid b := by
    intro hn
    have hd : SrtIn κ d1 mid b := by
      by_cases c : mid + m - s = b
      · rw [c] at k4; exact k4
      · have : mid + m - s = mid := by omega
        rw [this] at k5; exact k5
    subst e2
    split
    · intro i j q1 q2 q3
      rw [sortR_out hmid (by rw [k1.len]; omega) (.inr q1), sortR_out hmid (by rw [k1.len]; omega) (.inr (by omega))]
      exact hd i j q1 q2 q3
    · exact hd
  subst e3
  split
  · have hl : b ≤ d2.length := by rw [m2.1.len]; exact hb
    exact (m2.1.right hmid hmid2 hb).done hmid hmid2 hb (srt_keep hmid hmid2 hl m2.2) (sortR_srt hmid2 hl)
  · rename_i hn
    exact m2.1.done hmid hmid2 hb m2.2 (r2 hn)
/-- blocks of s places are sorted, from lo up to hi -/
def Blk (κ : α → Int) (l : List α) (s lo hi : Nat) : Prop := ∀ x, s ∣ x → lo ≤ x → x < hi → SrtIn κ l x (min (x + s) l.length)
theorem mod_const {l : List α} {i : Nat} {y : α} : l.modify i (fun _ => y) = l.set i y := by
  apply List.ext_getElem?
  intro k
  rw [List.getElem?_modify, List.getElem?_set]
  by_cases h : i = k
  · subst h
    by_cases h2 : i < l.length
    · simp [h2]
    · simp [h2]
  · simp [h]
theorem swap_mod {l : List α} {i j : Nat} (hi : i < l.length) (hj : j < l.length) : (l.modify i fun _ => l.getD j default).modify j (fun _ => l.getD i default) = ixs l (swI i j) := by
  rw [mod_const, mod_const, swap_set hi hj]
theorem swapI {l d : List α} {a b i : Int} (e : d = swapR l a.toNat b.toNat i.toNat) (ha : 0 ≤ a) (hi : 0 ≤ i) (hab : a + i + 1 ≤ b) (hb : b + i + 1 ≤ l.length) :
    (d.modify (a + i).toNat fun _ => d.getD (b + i).toNat default).modify (b + i).toNat (fun _ => d.getD (a + i).toNat default) = swapR l a.toNat b.toNat (i + 1).toNat := by
  have hl : d.length = l.length := by rw [e, swapR_len]
  rw [swap_mod (by omega) (by omega), e, show (a + i).toNat = a.toNat + i.toNat by omega, show (b + i).toNat = b.toNat + i.toNat by omega, swapR_step (by omega) (by omega), show (i + 1).toNat = i.toNat + 1 by omega]
theorem swapI0 {l : List α} {a b : Nat} : l = swapR l a b 0 := (swapR_zero l a b).symm
/-- the round of an insertion -/
theorem insI {l d : List α} {j i : Int} (e : d = rotR l j.toNat i.toNat (i.toNat + 1)) (hj : 0 < j) (hji : j ≤ i) (hi : i < l.length) :
    (d.modify j.toNat fun _ => d.getD (j - 1).toNat default).modify (j - 1).toNat (fun _ => d.getD j.toNat default) = rotR l (j - 1).toNat i.toNat (i.toNat + 1) := by
  have hl : d.length = l.length := by rw [e, rotR_len]
  rw [swap_mod (by omega) (by omega), e, show (j - 1).toNat = j.toNat - 1 by omega]
  exact rot_dn (by omega) (by omega) (by omega)
theorem insI_at {l d : List α} {j i : Int} (e : d = rotR l j.toNat i.toNat (i.toNat + 1)) (hj : 0 ≤ j) (hji : j ≤ i) (hi : i < l.length) : d.getD j.toNat default = l.getD i.toNat default ∧ (0 < j → d.getD (j - 1).toNat default = l.getD (j - 1).toNat default) := by
  rw [e]
  refine ⟨?_, fun h => ?_⟩
  · rw [rotR_get (by omega)]; congr 1; unfold roI; rw [if_pos (by omega)]; omega
  · rw [rotR_get (by omega)]; congr 1; unfold roI; rw [if_neg (by omega), if_neg (by omega)]
theorem rot_self {l : List α} {i : Nat} : l = rotR l i i (i + 1) := (rot_none (.inl ⟨Nat.le_refl _, Nat.le_refl _⟩) (Nat.le_refl _)).symm
theorem sort_next {l e d : List α} {a b i j : Int} (he : e = sortR κ a.toNat (min i b).toNat l) (ha : 0 ≤ a) (hai : a + 1 ≤ i) (hib : i < b) (hb : b ≤ l.length) (hd : d = rotR e j.toNat i.toNat (i.toNat + 1)) (hj : a ≤ j) (hji : j ≤ i)
    (hg : ∀ k, j.toNat ≤ k → k < i.toNat → κ (e.getD i.toNat default) < κ (e.getD k default)) (hle : j ≤ a ∨ κ (e.getD (j - 1).toNat default) ≤ κ (e.getD i.toNat default)) : d = sortR κ a.toNat (min (i + 1) b).toNat l := by
  have hl : e.length = l.length := by rw [he, sortR_len (by omega) (by omega)]
  have hs : SrtIn κ e a.toNat i.toNat := by
    rw [he, show (min i b).toNat = i.toNat by omega]
    exact sortR_srt (by omega) (by omega)
  rw [hd, ins_step (a := a.toNat) (by omega) (by omega) (by omega) hs hg (by rcases hle with h | h; exact .inl (by omega); exact .inr (by rw [show j.toNat - 1 = (j - 1).toNat by omega]; exact h)), he, show (min (i + 1) b).toNat = i.toNat + 1 by omega, show (min i b).toNat = i.toNat by omega]
  exact sortR_sortR (Nat.le_refl _) (by omega) (by omega) (by omega)
theorem rotI_left {l : List α} {m i j : Int} (hi : 0 < i) (hj : 0 < j) (hij : j < i) (him : i ≤ m) (hb : m + j ≤ l.length) : rotR (swapR l (m - i).toNat m.toNat j.toNat) (m - (i - j)).toNat m.toNat (m + j).toNat = rotR l (m - i).toNat m.toNat (m + j).toNat := by
  have := rot_left (l := l) (a := (m - i).toNat) (m := m.toNat) (b := (m + j).toNat) (by omega) (by omega) (by omega) (by omega)
  rw [show (m + j).toNat - m.toNat = j.toNat by omega, show (m - i).toNat + j.toNat = (m - (i - j)).toNat by omega] at this
  exact this
theorem rotI_right {l : List α} {m i j : Int} (hi : 0 < i) (hj : 0 < j) (hij : i < j) (him : i ≤ m) (hb : m + j ≤ l.length) : rotR (swapR l (m - i).toNat (m + j - i).toNat i.toNat) (m - i).toNat m.toNat (m + (j - i)).toNat = rotR l (m - i).toNat m.toNat (m + j).toNat := by
  have := rot_right (l := l) (a := (m - i).toNat) (m := m.toNat) (b := (m + j).toNat) (by omega) (by omega) (by omega) (by omega)
  rw [show m.toNat - (m - i).toNat = i.toNat by omega, show (m + j).toNat - i.toNat = (m + j - i).toNat by omega] at this
  rw [show m + (j - i) = m + j - i by omega]
  exact this
theorem rotI_same {l : List α} {m i : Int} (hi : 0 < i) (him : i ≤ m) (hb : m + i ≤ l.length) : swapR l (m - i).toNat m.toNat i.toNat = rotR l (m - i).toNat m.toNat (m + i).toNat := by
  have := rot_same (l := l) (a := (m - i).toNat) (m := m.toNat) (b := (m + i).toNat) (by omega) (by omega) (by omega) (by omega)
  rw [show (m + i).toNat - m.toNat = i.toNat by omega] at this
  exact this
/-! the merge, by numbers of the machine -/
structure SymI (κ : α → Int) (l : List α) (a m b s r : Int) : Prop where
  lo1 : a ≤ s
  lo2 : (a + b) / 2 + m ≤ b + s
  sr : s ≤ r
  hi1 : r ≤ (a + b) / 2
  hi2 : r ≤ m
  ge : ∀ c : Nat, a ≤ c → (a + b) / 2 + m ≤ b + c → (c : Int) < s → κ (l.getD c default) ≤ κ (l.getD ((a + b) / 2 + m - 1 - c).toNat default)
  lt : ∀ c : Nat, r ≤ c → (c : Int) < (a + b) / 2 → (c : Int) < m → κ (l.getD ((a + b) / 2 + m - 1 - c).toNat default) < κ (l.getD c default)
/-- what a merge is given -/
structure MgI (κ : α → Int) (l : List α) (a m b : Int) : Prop where
  a0 : 0 ≤ a
  am : a < m
  mb : m < b
  bl : b ≤ l.length
  s1 : SrtIn κ l a.toNat m.toNat
  s2 : SrtIn κ l m.toNat b.toNat
variable {l : List α} {a m b s r : Int}
theorem SymI.start (h : MgI κ l a m b) : SymI κ l a m b (if (a + b) / 2 < m then (a + b) / 2 + m - b else a) (if (a + b) / 2 < m then (a + b) / 2 else m) := by
  obtain ⟨h0, h1, h2, h3, _, _⟩ := h
  split
  · exact ⟨by omega, by omega, by omega, by omega, by omega, fun c _ _ _ => by omega, fun c _ _ _ => by omega⟩
  · exact ⟨by omega, by omega, by omega, by omega, by omega, fun c _ _ _ => by omega, fun c _ _ _ => by omega⟩
theorem SymI.up (h : MgI κ l a m b) (hs : SymI κ l a m b s r) (hsr : s < r) (hk : κ (l.getD ((s + r) / 2).toNat default) ≤ κ (l.getD ((a + b) / 2 + m - 1 - (s + r) / 2).toNat default)) : SymI κ l a m b ((s + r) / 2 + 1) r := by
  obtain ⟨h0, h1, h2, h3, s1, s2⟩ := h
  obtain ⟨l1, l2, l3, l4, l5, l6, l7⟩ := hs
  refine ⟨by omega, by omega, by omega, l4, l5, fun c q1 q2 q3 => ?_, l7⟩
  have e1 := s1 c ((s + r) / 2).toNat (by omega) (by omega) (by omega)
  have e2 := s2 ((a + b) / 2 + m - 1 - (s + r) / 2).toNat ((a + b) / 2 + m - 1 - c).toNat (by omega) (by omega) (by omega)
  omega
theorem SymI.down (h : MgI κ l a m b) (hs : SymI κ l a m b s r) (hsr : s < r) (hk : κ (l.getD ((a + b) / 2 + m - 1 - (s + r) / 2).toNat default) < κ (l.getD ((s + r) / 2).toNat default)) : SymI κ l a m b s ((s + r) / 2) := by
  obtain ⟨h0, h1, h2, h3, s1, s2⟩ := h
  obtain ⟨l1, l2, l3, l4, l5, l6, l7⟩ := hs
  refine ⟨l1, l2, by omega, by omega, by omega, l6, fun c q1 q2 q3 => ?_⟩
  have e1 := s1 ((s + r) / 2).toNat c (by omega) (by omega) (by omega)
  have e2 := s2 ((a + b) / 2 + m - 1 - c).toNat ((a + b) / 2 + m - 1 - (s + r) / 2).toNat (by omega) (by omega) (by omega)
  omega
theorem SymI.stop (h : MgI κ l a m b) (hs : SymI κ l a m b s r) (hsr : r ≤ s) : SymAt κ l a.toNat m.toNat b.toNat ((a + b) / 2).toNat s.toNat := by
  obtain ⟨h0, h1, h2, h3, s1, s2⟩ := h
  obtain ⟨l1, l2, l3, l4, l5, l6, l7⟩ := hs
  refine ⟨by omega, by omega, by omega, by omega, fun c q1 q2 q3 => ?_, fun c q1 q2 q3 => ?_⟩
  · have := l6 c (by omega) (by omega) (by omega)
    rw [show ((a + b) / 2 + m - 1 - (c : Int)).toNat = ((a + b) / 2).toNat + m.toNat - 1 - c by omega] at this
    exact this
  · have := l7 c (by omega) (by omega) (by omega)
    rw [show ((a + b) / 2 + m - 1 - (c : Int)).toNat = ((a + b) / 2).toNat + m.toNat - 1 - c by omega] at this
    exact this
def symD1 (l : List α) (a m b s : Int) : List α := if s < m ∧ m < (a + b) / 2 + m - s then rotR l s.toNat m.toNat ((a + b) / 2 + m - s).toNat else l
theorem symD1_eq (h : MgI κ l a m b) (hs : SymI κ l a m b s r) (hsr : r ≤ s) : symD1 l a m b s = rotR l s.toNat m.toNat (((a + b) / 2).toNat + m.toNat - s.toNat) := by
  obtain ⟨h0, h1, h2, h3, s1, s2⟩ := h
  obtain ⟨l1, l2, l3, l4, l5, l6, l7⟩ := hs
  unfold symD1
  split
  · congr 1; omega
  · rename_i hn
    by_cases e : s = m
    · subst e
      unfold rotR
      refine ((ixs_congr l fun k hk => ?_).trans (ixs_id l)).symm
      unfold roI
      repeat' split
      all_goals omega
    · exact (rot_none (.inr (by omega)) (by omega)).symm
def symD2 (κ : α → Int) (l : List α) (a m b s : Int) : List α := if a < s ∧ s < (a + b) / 2 then sortR κ a.toNat ((a + b) / 2).toNat (symD1 l a m b s) else symD1 l a m b s
theorem symD1_len : (symD1 l a m b s).length = l.length := by unfold symD1; split <;> simp [rotR_len]
theorem symI_left (h : MgI κ l a m b) (hs : SymI κ l a m b s r) (hsr : r ≤ s) (h1 : a < s) (h2 : s < (a + b) / 2) : MgI κ (symD1 l a m b s) a s ((a + b) / 2) := by
  have ha := hs.stop h hsr
  have e := symD1_eq h hs hsr
  obtain ⟨k1, k2, k3, k4, k5⟩ := sym_mid ha (by have := h.am; have := h.a0; omega) (by have := h.mb; omega) (by have := h.a0; have := h.am; have := h.mb; omega) (by have := h.a0; have := h.am; have := h.mb; omega) (by have := h.bl; have := h.a0; have := h.am; have := h.mb; omega) h.s1 h.s2
  rw [← e] at k1 k2 k3 k4 k5
  exact ⟨h.a0, h1, h2, by rw [symD1_len]; have := h.bl; have := h.am; have := h.mb; omega, k2, k3⟩
theorem symI_right (h : MgI κ l a m b) (hs : SymI κ l a m b s r) (hsr : r ≤ s) (h1 : (a + b) / 2 < (a + b) / 2 + m - s) (h2 : (a + b) / 2 + m - s < b) : MgI κ (symD2 κ l a m b s) ((a + b) / 2) ((a + b) / 2 + m - s) b := by
  have ha := hs.stop h hsr
  have e := symD1_eq h hs hsr
  have q0 := h.a0
  have q1 := h.am
  have q2 := h.mb
  have q3 := h.bl
  have l4 := hs.hi1
  have l5 := hs.hi2
  have l3 := hs.sr
  have l1 := hs.lo1
  have l2 := hs.lo2
  obtain ⟨k1, k2, k3, k4, k5⟩ := sym_mid ha (by omega) (by omega) (by omega) (by omega) (by omega) h.s1 h.s2
  rw [← e] at k1 k2 k3 k4 k5
  have hl := symD1_len (l := l) (a := a) (m := m) (b := b) (s := s)
  have en : ((a + b) / 2).toNat + m.toNat - s.toNat = ((a + b) / 2 + m - s).toNat := by omega
  rw [en] at k4 k5
  have keep : ∀ {x y : Nat}, ((a + b) / 2).toNat ≤ x → y ≤ l.length → SrtIn κ (symD1 l a m b s) x y → SrtIn κ (symD2 κ l a m b s) x y := fun {x y} hx hy hh => by
    unfold symD2
    split
    · intro i j p1 p2 p3
      rw [sortR_out (by omega) (by omega) (.inr (by omega)), sortR_out (by omega) (by omega) (.inr (by omega))]
      exact hh i j p1 p2 p3
    · exact hh
  refine ⟨by omega, h1, h2, ?_, keep (Nat.le_refl _) (by omega) k4, keep (by omega) (by omega) k5⟩
  unfold symD2
  split
  · rw [sortR_len (by omega) (by omega), hl]; exact q3
  · rw [hl]; exact q3
theorem symI_end (h : MgI κ l a m b) (hs : SymI κ l a m b s r) (hsr : r ≤ s) {d : List α} (e3 : d = if (a + b) / 2 < (a + b) / 2 + m - s ∧ (a + b) / 2 + m - s < b then sortR κ ((a + b) / 2).toNat b.toNat (symD2 κ l a m b s) else symD2 κ l a m b s) : d = sortR κ a.toNat b.toNat l := by
  have ha := hs.stop h hsr
  have q0 := h.a0
  have q1 := h.am
  have q2 := h.mb
  have q3 := h.bl
  have l4 := hs.hi1
  have l5 := hs.hi2
  have l3 := hs.sr
  have l1 := hs.lo1
  have l2 := hs.lo2
  refine sym_end ha (by omega) (by omega) (by omega) (by omega) (by omega) h.s1 h.s2 (symD1_eq h hs hsr) (d2 := symD2 κ l a m b s) ?_ ?_
  · unfold symD2
    by_cases c : a < s ∧ s < (a + b) / 2
    · rw [if_pos c, if_pos (by omega)]
    · rw [if_neg c, if_neg (by omega)]
  · rw [e3]
    by_cases c : (a + b) / 2 < (a + b) / 2 + m - s ∧ (a + b) / 2 + m - s < b
    · rw [if_pos c, if_pos (by omega)]
    · rw [if_neg c, if_neg (by omega)]
/-- the binary searches -/
structure BsL (κ : α → Int) (l : List α) (a m b i j : Int) : Prop where
  mi : m ≤ i
  ij : i ≤ j
  jb : j ≤ b
  lt : ∀ k : Nat, m ≤ k → (k : Int) < i → κ (l.getD k default) < κ (l.getD a.toNat default)
  ge : ∀ k : Nat, j ≤ k → (k : Int) < b → κ (l.getD a.toNat default) ≤ κ (l.getD k default)
theorem BsL.start (h : MgI κ l a m b) : BsL κ l a m b m b := ⟨Int.le_refl _, Int.le_of_lt h.mb, Int.le_refl _, fun k _ _ => by omega, fun k _ _ => by omega⟩
theorem BsL.up {i j : Int} (h : MgI κ l a m b) (hs : BsL κ l a m b i j) (hij : i < j) (hk : κ (l.getD ((i + j) / 2).toNat default) < κ (l.getD a.toNat default)) : BsL κ l a m b ((i + j) / 2 + 1) j := by
  obtain ⟨h1, h2, h3, h4, h5⟩ := hs
  have := h.a0
  have := h.am
  have := h.mb
  exact ⟨by omega, by omega, h3, fun k q1 q2 => Int.lt_of_le_of_lt (h.s2 k ((i + j) / 2).toNat (by omega) (by omega) (by omega)) hk, h5⟩
theorem BsL.down {i j : Int} (h : MgI κ l a m b) (hs : BsL κ l a m b i j) (hij : i < j) (hk : κ (l.getD a.toNat default) ≤ κ (l.getD ((i + j) / 2).toNat default)) : BsL κ l a m b i ((i + j) / 2) := by
  obtain ⟨h1, h2, h3, h4, h5⟩ := hs
  have := h.a0
  have := h.am
  have := h.mb
  exact ⟨h1, by omega, by omega, h4, fun k q1 q2 => Int.le_trans hk (h.s2 ((i + j) / 2).toNat k (by omega) (by omega) (by omega))⟩
theorem BsL.stop {i j : Int} (h : MgI κ l a m b) (hm : m = a + 1) (hs : BsL κ l a m b i j) (hij : j ≤ i) : rotR l a.toNat (a.toNat + 1) i.toNat = sortR κ a.toNat b.toNat l := by
  obtain ⟨h1, h2, h3, h4, h5⟩ := hs
  have q0 := h.a0
  have q1 := h.am
  have q2 := h.mb
  have q3 := h.bl
  have q4 := h.s2
  rw [show m.toNat = a.toNat + 1 by omega] at q4
  exact merge_one (by omega) (by omega) (by omega) q4 (fun k p1 p2 => h4 k (by omega) (by omega)) (fun k p1 p2 => h5 k (by omega) (by omega))
structure BsR (κ : α → Int) (l : List α) (a m b i j : Int) : Prop where
  ai : a ≤ i
  ij : i ≤ j
  jm : j ≤ m
  le : ∀ k : Nat, a ≤ k → (k : Int) < i → κ (l.getD k default) ≤ κ (l.getD m.toNat default)
  gt : ∀ k : Nat, j ≤ k → (k : Int) < m → κ (l.getD m.toNat default) < κ (l.getD k default)
theorem BsR.start (h : MgI κ l a m b) : BsR κ l a m b a m := ⟨Int.le_refl _, Int.le_of_lt h.am, Int.le_refl _, fun k _ _ => by omega, fun k _ _ => by omega⟩
theorem BsR.up {i j : Int} (h : MgI κ l a m b) (hs : BsR κ l a m b i j) (hij : i < j) (hk : κ (l.getD ((i + j) / 2).toNat default) ≤ κ (l.getD m.toNat default)) : BsR κ l a m b ((i + j) / 2 + 1) j := by
  obtain ⟨h1, h2, h3, h4, h5⟩ := hs
  have := h.a0
  have := h.am
  have := h.mb
  exact ⟨by omega, by omega, h3, fun k q1 q2 => Int.le_trans (h.s1 k ((i + j) / 2).toNat (by omega) (by omega) (by omega)) hk, h5⟩
theorem BsR.down {i j : Int} (h : MgI κ l a m b) (hs : BsR κ l a m b i j) (hij : i < j) (hk : κ (l.getD m.toNat default) < κ (l.getD ((i + j) / 2).toNat default)) : BsR κ l a m b i ((i + j) / 2) := by
  obtain ⟨h1, h2, h3, h4, h5⟩ := hs
  have := h.a0
  have := h.am
  have := h.mb
  exact ⟨h1, by omega, by omega, h4, fun k q1 q2 => Int.lt_of_lt_of_le hk (h.s1 ((i + j) / 2).toNat k (by omega) (by omega) (by omega))⟩
theorem BsR.stop {i j : Int} (h : MgI κ l a m b) (hb : b = m + 1) (hs : BsR κ l a m b i j) (hij : j ≤ i) : rotR l i.toNat m.toNat (m.toNat + 1) = sortR κ a.toNat b.toNat l := by
  obtain ⟨h1, h2, h3, h4, h5⟩ := hs
  have q0 := h.a0
  have q1 := h.am
  have q2 := h.mb
  have q3 := h.bl
  rw [show b.toNat = m.toNat + 1 by omega]
  exact merge_last (by omega) (by omega) (by omega) h.s1 (fun k p1 p2 => h4 k (by omega) (by omega)) (fun k p1 p2 => h5 k (by omega) (by omega))
theorem upI {l d : List α} {a k : Int} (e : d = rotR l a.toNat (a.toNat + 1) (k.toNat + 1)) (ha : 0 ≤ a) (hk : a ≤ k) (hl : k + 1 < l.length) :
    (d.modify k.toNat fun _ => d.getD (k + 1).toNat default).modify (k + 1).toNat (fun _ => d.getD k.toNat default) = rotR l a.toNat (a.toNat + 1) ((k + 1).toNat + 1) := by
  have hl2 : d.length = l.length := by rw [e, rotR_len]
  rw [swap_mod (by omega) (by omega), e, show (k + 1).toNat = k.toNat + 1 by omega]
  exact rot_up (by omega) (by omega)
theorem rot_self2 {l : List α} {i : Nat} : l = rotR l i (i + 1) (i + 1) := (rot_none (.inr (Nat.le_refl _)) (Nat.le_succ _)).symm
theorem half2 {x : Int} (h0 : 0 ≤ x) (h1 : x ≤ 9223372036854775807) : (IntKind.u64.wrap x).fdiv 2 = x / 2 := by
  have e : IntKind.u64.wrap x = x := by
    show x % 18446744073709551616 = x
    omega
  rw [e, Int.fdiv_eq_ediv_of_nonneg _ (by omega)]
theorem symD2_len (h : MgI κ l a m b) : (symD2 κ l a m b s).length = l.length := by
  have q0 := h.a0
  have q1 := h.am
  have q2 := h.mb
  have q3 := h.bl
  unfold symD2
  split
  · rw [sortR_len (by omega) (by rw [symD1_len]; omega), symD1_len]
  · exact symD1_len
theorem symI_left2 (hl : l.length ≤ 1048576) (h : MgI κ l a m b) (hs : SymI κ l a m b s r) (hsr : r ≤ s) (h1 : a < s) (h2 : s < (a + b) / 2) : (symD1 l a m b s).length ≤ 1048576 ∧ MgI κ (symD1 l a m b s) a s ((a + b) / 2) := ⟨by rw [symD1_len]; exact hl, symI_left h hs hsr h1 h2⟩
theorem symI_right2 (hl : l.length ≤ 1048576) (h : MgI κ l a m b) (hs : SymI κ l a m b s r) (hsr : r ≤ s) (h1 : (a + b) / 2 < (a + b) / 2 + m - s) (h2 : (a + b) / 2 + m - s < b) : (symD2 κ l a m b s).length ≤ 1048576 ∧ MgI κ (symD2 κ l a m b s) ((a + b) / 2) ((a + b) / 2 + m - s) b := ⟨by rw [symD2_len h]; exact hl, symI_right h hs hsr h1 h2⟩
/-! blocks that are sorted -/
variable {d : List α} {n : Int}
theorem dvd_lt {k x y : Int} (hk : 0 < k) (h1 : k ∣ x) (h2 : k ∣ y) (h : x < y + k) : x ≤ y := by
  obtain ⟨p, rfl⟩ := h1
  obtain ⟨q, rfl⟩ := h2
  have h3 : k * p < k * (q + 1) := by rw [Int.mul_add, Int.mul_one]; exact h
  have := Int.lt_of_mul_lt_mul_left h3 (Int.le_of_lt hk)
  exact Int.mul_le_mul_of_nonneg_left (by omega) (Int.le_of_lt hk)
structure St1 (κ : α → Int) (l d : List α) (s a n : Int) : Prop where
  len : d.length = l.length
  sim : SimK κ l d
  nn : n = l.length
  s0 : 0 < s
  a0 : 0 ≤ a
  an : a ≤ n
  dv : s ∣ a
  bl : ∀ x : Nat, s ∣ x → (x : Int) < a → SrtIn κ d x (x + s).toNat
structure St2 (κ : α → Int) (l d : List α) (s n : Int) : Prop where
  len : d.length = l.length
  sim : SimK κ l d
  nn : n = l.length
  s0 : 0 < s
  bl : ∀ x : Nat, s ∣ x → (x : Int) < n → SrtIn κ d x (min (x + s) n).toNat
structure St3 (κ : α → Int) (l d : List α) (s a n : Int) : Prop where
  len : d.length = l.length
  sim : SimK κ l d
  nn : n = l.length
  s0 : 0 < s
  a0 : 0 ≤ a
  an : a ≤ n
  dv : 2 * s ∣ a
  lo : ∀ x : Nat, 2 * s ∣ x → (x : Int) < a → SrtIn κ d x (x + 2 * s).toNat
  hi : ∀ x : Nat, s ∣ x → a ≤ x → (x : Int) < n → SrtIn κ d x (min (x + s) n).toNat
theorem srt_off {l : List α} {a b x y : Nat} (hab : a ≤ b) (hb : b ≤ l.length) (hy : y ≤ l.length) (h : y ≤ a ∨ b ≤ x) (hs : SrtIn κ l x y) : SrtIn κ (sortR κ a b l) x y := by
  intro i j h1 h2 h3
  rw [sortR_out hab hb (by omega), sortR_out hab hb (by omega)]
  exact hs i j h1 h2 h3
theorem St1.start (hn : n = l.length) : St1 κ l l 20 0 n := ⟨rfl, SimK.refl l, hn, by omega, Int.le_refl _, by omega, ⟨0, rfl⟩, fun x _ h => by omega⟩
theorem St1.next (h : St1 κ l d s a n) (hb : a + s ≤ n) : St1 κ l (sortR κ a.toNat (a + s).toNat d) s (a + s) n := by
  obtain ⟨h1, h2, h3, h4, h5, h6, h7, h8⟩ := h
  refine ⟨by rw [sortR_len (by omega) (by omega), h1], h2.trans (sortR_sim (by omega)), h3, h4, by omega, hb, Int.dvd_add h7 (Int.dvd_refl s), fun x q1 q2 => ?_⟩
  have q3 := dvd_lt h4 q1 h7 q2
  by_cases c : (x : Int) = a
  · rw [show x = a.toNat by omega, show ((a.toNat : Int) + s).toNat = (a + s).toNat by omega]
    exact sortR_srt (by omega) (by omega)
  · refine srt_off (by omega) (by omega) ?_ (.inl ?_) (h8 x q1 (by omega))
    · have := dvd_lt h4 (Int.dvd_add q1 (Int.dvd_refl s)) h7 (by omega); omega
    · have := dvd_lt h4 (Int.dvd_add q1 (Int.dvd_refl s)) h7 (by omega); omega
theorem St1.fin (h : St1 κ l d s a n) (hb : n < a + s) : St2 κ l (sortR κ a.toNat n.toNat d) s n := by
  obtain ⟨h1, h2, h3, h4, h5, h6, h7, h8⟩ := h
  refine ⟨by rw [sortR_len (by omega) (by omega), h1], h2.trans (sortR_sim (by omega)), h3, h4, fun x q1 q2 => ?_⟩
  have q3 := dvd_lt h4 q1 h7 (by omega)
  by_cases c : (x : Int) = a
  · rw [show x = a.toNat by omega, show (min ((a.toNat : Int) + s) n).toNat = n.toNat by omega]
    exact sortR_srt (by omega) (by omega)
  · have q4 := dvd_lt h4 (Int.dvd_add q1 (Int.dvd_refl s)) h7 (by omega)
    rw [show (min ((x : Int) + s) n).toNat = (x + s).toNat by omega]
    exact srt_off (by omega) (by omega) (by omega) (.inl (by omega)) (h8 x q1 (by omega))
theorem St2.stop (h : St2 κ l d s n) (hs : n ≤ s) : d = isrt κ l := by
  obtain ⟨h1, h2, h3, h4, h5⟩ := h
  by_cases c : n = 0
  · have : l = [] := List.length_eq_zero_iff.1 (by omega)
    subst this
    exact List.length_eq_zero_iff.1 (by simpa using h1)
  · have h6 := h5 0 (by simp) (by omega)
    refine isrt_uniq ?_ h2
    have : seg d 0 n.toNat = d := by unfold seg; rw [List.drop_zero, List.take_of_length_le (by omega)]
    rw [← this, srt_seg (by omega)]
    rw [show (min (((0 : Nat) : Int) + s) n).toNat = n.toNat by omega] at h6
    exact h6
theorem St3.start (h : St2 κ l d s n) : St3 κ l d s 0 n := by
  obtain ⟨h1, h2, h3, h4, h5⟩ := h
  exact ⟨h1, h2, h3, h4, Int.le_refl _, by omega, ⟨0, by simp⟩, fun x _ q => by omega, fun x q1 _ q2 => h5 x q1 q2⟩
theorem two_dvd {s a : Int} (h : 2 * s ∣ a) : s ∣ a := Int.dvd_trans ⟨2, by omega⟩ h
theorem St3.mg (h : St3 κ l d s a n) (hb : a + 2 * s ≤ n) : MgI κ d a (a + s) (a + 2 * s) := by
  obtain ⟨h1, h2, h3, h4, h5, h6, h7, h8, h9⟩ := h
  have e : ((a.toNat : Nat) : Int) = a := by omega
  refine ⟨h5, by omega, by omega, by omega, ?_, ?_⟩
  · have := h9 a.toNat (by rw [e]; exact two_dvd h7) (by omega) (by omega)
    rw [show (min ((a.toNat : Int) + s) n).toNat = (a + s).toNat by omega] at this
    exact this
  · have := h9 (a + s).toNat (by rw [show (((a + s).toNat : Nat) : Int) = a + s by omega]; exact Int.dvd_add (two_dvd h7) (Int.dvd_refl s)) (by omega) (by omega)
    rw [show (min (((a + s).toNat : Int) + s) n).toNat = (a + 2 * s).toNat by omega] at this
    exact this
theorem St3.next (h : St3 κ l d s a n) (hb : a + 2 * s ≤ n) : St3 κ l (sortR κ a.toNat (a + 2 * s).toNat d) s (a + 2 * s) n := by
  obtain ⟨h1, h2, h3, h4, h5, h6, h7, h8, h9⟩ := h
  refine ⟨by rw [sortR_len (by omega) (by omega), h1], h2.trans (sortR_sim (by omega)), h3, h4, by omega, hb, Int.dvd_add h7 (Int.dvd_refl _), fun x q1 q2 => ?_, fun x q1 q2 q3 => ?_⟩
  · have q3 := dvd_lt (by omega) q1 h7 q2
    by_cases c : (x : Int) = a
    · rw [show x = a.toNat by omega, show ((a.toNat : Int) + 2 * s).toNat = (a + 2 * s).toNat by omega]
      exact sortR_srt (by omega) (by omega)
    · have q4 := dvd_lt (by omega) (Int.dvd_add q1 (Int.dvd_refl (2 * s))) h7 (by omega)
      exact srt_off (by omega) (by omega) (by omega) (.inl (by omega)) (h8 x q1 (by omega))
  · exact srt_off (by omega) (by omega) (by omega) (.inr (by omega)) (h9 x q1 (by omega) q3)
theorem St3.mg2 (h : St3 κ l d s a n) (hm : a + s < n) (hb : n < a + 2 * s) : MgI κ d a (a + s) n := by
  obtain ⟨h1, h2, h3, h4, h5, h6, h7, h8, h9⟩ := h
  have e : ((a.toNat : Nat) : Int) = a := by omega
  refine ⟨h5, by omega, hm, by omega, ?_, ?_⟩
  · have := h9 a.toNat (by rw [e]; exact two_dvd h7) (by omega) (by omega)
    rw [show (min ((a.toNat : Int) + s) n).toNat = (a + s).toNat by omega] at this
    exact this
  · have := h9 (a + s).toNat (by rw [show (((a + s).toNat : Nat) : Int) = a + s by omega]; exact Int.dvd_add (two_dvd h7) (Int.dvd_refl s)) (by omega) (by omega)
    rw [show (min (((a + s).toNat : Int) + s) n).toNat = n.toNat by omega] at this
    exact this
theorem St3.fin1 (h : St3 κ l d s a n) (hb : n < a + 2 * s) : St2 κ l (sortR κ a.toNat n.toNat d) (s * 2) n := by
  obtain ⟨h1, h2, h3, h4, h5, h6, h7, h8, h9⟩ := h
  refine ⟨by rw [sortR_len (by omega) (by omega), h1], h2.trans (sortR_sim (by omega)), h3, by omega, fun x q1 q2 => ?_⟩
  rw [Int.mul_comm s 2] at q1
  have q3 := dvd_lt (by omega) q1 h7 (by omega)
  by_cases c : (x : Int) = a
  · rw [show x = a.toNat by omega, show (min ((a.toNat : Int) + s * 2) n).toNat = n.toNat by omega]
    exact sortR_srt (by omega) (by omega)
  · have q4 := dvd_lt (by omega) (Int.dvd_add q1 (Int.dvd_refl (2 * s))) h7 (by omega)
    rw [show (min ((x : Int) + s * 2) n).toNat = (x + 2 * s).toNat by omega]
    exact srt_off (by omega) (by omega) (by omega) (.inl (by omega)) (h8 x q1 (by omega))
theorem St3.fin2 (h : St3 κ l d s a n) (hm : n ≤ a + s) (hb : n < a + 2 * s) : St2 κ l d (s * 2) n := by
  obtain ⟨h1, h2, h3, h4, h5, h6, h7, h8, h9⟩ := h
  refine ⟨h1, h2, h3, by omega, fun x q1 q2 => ?_⟩
  rw [Int.mul_comm s 2] at q1
  have q3 := dvd_lt (by omega) q1 h7 (by omega)
  by_cases c : (x : Int) = a
  · have := h9 x (two_dvd q1) (by omega) q2
    rw [show (min ((x : Int) + s * 2) n).toNat = (min ((x : Int) + s) n).toNat by omega]
    exact this
  · have q4 := dvd_lt (by omega) (Int.dvd_add q1 (Int.dvd_refl (2 * s))) h7 (by omega)
    rw [show (min ((x : Int) + s * 2) n).toNat = (x + 2 * s).toNat by omega]
    exact h8 x q1 (by omega)
/-! the lists of the keys 0 to 5, one behind the other -/
def tailC (κ : α → Int) (l : List α) : Nat → List α
  | 0 => []
  | k + 1 => l.filter (fun x => κ x == 5 - (k : Int)) ++ tailC κ l k
theorem tailC_step {c : Int} (h0 : 0 ≤ c) (h5 : c ≤ 5) : tailC κ l (6 - c).toNat = l.filter (fun x => κ x == c) ++ tailC κ l (6 - (c + 1)).toNat := by
  rw [show (6 - c).toNat = (6 - (c + 1)).toNat + 1 by omega, tailC, show (5 - ((6 - (c + 1)).toNat : Int)) = c by omega]
theorem tailC_len : ∀ (k : Nat), (tailC κ l k).length ≤ k * l.length
  | 0 => by simp [tailC]
  | k + 1 => by
    have h1 := tailC_len k
    have h2 := List.length_filter_le (fun x => κ x == 5 - (k : Int)) l
    rw [tailC, List.length_append, Nat.add_mul, Nat.one_mul]; omega
theorem tailC_filter (c : Int) : ∀ (k : Nat), (tailC κ l k).filter (fun x => κ x == c) = if 6 - (k : Int) ≤ c ∧ c ≤ 5 then l.filter (fun x => κ x == c) else []
  | 0 => by rw [if_neg (by omega)]; rfl
  | k + 1 => by
    rw [tailC, List.filter_append, tailC_filter c k, List.filter_filter]
    by_cases h : c = 5 - (k : Int)
    · subst h
      rw [if_neg (by omega), if_pos (by omega), List.append_nil]
      congr 1; funext x; simp
    · have : l.filter (fun a => κ a == c && κ a == 5 - (k : Int)) = [] := by
        refine List.filter_eq_nil_iff.2 fun x _ hx => ?_
        simp only [Bool.and_eq_true, beq_iff_eq] at hx
        omega
      rw [this, List.nil_append]
      by_cases h2 : 6 - (k : Int) ≤ c ∧ c ≤ 5
      · rw [if_pos h2, if_pos (by omega)]
      · rw [if_neg h2, if_neg (by omega)]
theorem tailC_sorted : ∀ (k : Nat), SortedK κ (tailC κ l k) ∧ ∀ x ∈ tailC κ l k, 6 - (k : Int) ≤ κ x
  | 0 => ⟨List.Pairwise.nil, by simp [tailC]⟩
  | k + 1 => by
    obtain ⟨h1, h2⟩ := tailC_sorted k
    have h3 : ∀ x ∈ l.filter (fun x => κ x == 5 - (k : Int)), κ x = 5 - (k : Int) := fun x hx => by simpa using (List.mem_filter.1 hx).2
    refine ⟨List.pairwise_append.2 ⟨?_, h1, fun x hx y hy => ?_⟩, fun x hx => ?_⟩
    · exact List.Pairwise.imp_of_mem (fun {x y} hx hy _ => by rw [h3 x hx, h3 y hy]; exact Int.le_refl _) (List.pairwise_of_forall (l := l.filter (fun x => κ x == 5 - (k : Int))) (R := fun _ _ => True) fun _ _ => trivial)
    · have := h3 x hx; have := h2 y hy; omega
    · rcases List.mem_append.1 hx with h | h
      · have := h3 x h; omega
      · have := h2 x h; omega
theorem tailC_isrt (h : ∀ x, 0 ≤ κ x ∧ κ x ≤ 5) : tailC κ l 6 = isrt κ l := by
  refine isrt_uniq (tailC_sorted 6).1 fun c => ?_
  rw [tailC_filter]
  by_cases hc : 6 - ((6 : Nat) : Int) ≤ c ∧ c ≤ 5
  · rw [if_pos hc]
  · rw [if_neg hc]
    refine (List.filter_eq_nil_iff.2 fun x _ hx => ?_).symm
    have := h x
    simp only [beq_iff_eq] at hx
    omega
theorem filterC_at {c : Int} {i : Nat} (h : i < l.length) : (l.drop i).filter (fun x => κ x == c) = if κ (l.getD i default) = c then l.getD i default :: (l.drop (i + 1)).filter (fun x => κ x == c) else (l.drop (i + 1)).filter (fun x => κ x == c) := by
  rw [drop_cons h, List.filter_cons]
  simp
theorem filterC_end {c : Int} {i : Nat} (h : l.length ≤ i) : (l.drop i).filter (fun x => κ x == c) = [] := by rw [List.drop_of_length_le h]; rfl
end
end Go.D
