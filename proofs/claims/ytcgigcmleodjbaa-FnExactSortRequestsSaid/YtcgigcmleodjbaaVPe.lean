/-
  A stable sort by a key: a list in place; ranges, rotations, merges.
-/
import Derived.Test.YtcgigcmleodjbaaVPa
namespace Go.D
set_option linter.unusedVariables false
set_option linter.unusedSectionVars false
section
variable {α : Type} [Inhabited α] {κ : α → Int}
/-- the list whose place k holds what place f k held -/
def ixs (l : List α) (f : Nat → Nat) : List α := (List.range l.length).map fun k => l.getD (f k) default
theorem ixs_len (l : List α) (f : Nat → Nat) : (ixs l f).length = l.length := by simp [ixs]
theorem ixs_get (l : List α) (f : Nat → Nat) {k : Nat} (h : k < l.length) : (ixs l f).getD k default = l.getD (f k) default := by
  simp [ixs, List.getD_eq_getElem?_getD, h]
theorem ext_getD {l m : List α} (h : l.length = m.length) (h2 : ∀ k, k < l.length → l.getD k default = m.getD k default) : l = m := by
  apply List.ext_getElem h
  intro k h3 h4
  have := h2 k h3
  simpa [List.getD_eq_getElem?_getD, h3, h4] using this
theorem ixs_ixs (l : List α) (f g : Nat → Nat) (h : ∀ k, k < l.length → g k < l.length) : ixs (ixs l f) g = ixs l (fun k => f (g k)) := by
  refine ext_getD (by simp [ixs_len]) fun k hk => ?_
  rw [ixs_len, ixs_len] at hk
  rw [ixs_get _ _ (by rw [ixs_len]; exact hk), ixs_get _ _ (h k hk), ixs_get _ _ hk]
theorem ixs_congr (l : List α) {f g : Nat → Nat} (h : ∀ k, k < l.length → f k = g k) : ixs l f = ixs l g := by
  refine ext_getD (by simp [ixs_len]) fun k hk => ?_
  rw [ixs_len] at hk
  rw [ixs_get _ _ hk, ixs_get _ _ hk, h k hk]
theorem ixs_id (l : List α) : ixs l (fun k => k) = l := ext_getD (ixs_len _ _) fun k hk => by rw [ixs_len] at hk; rw [ixs_get _ _ hk]
/-- places i and j change what they hold -/
def swI (i j k : Nat) : Nat := if k = i then j else if k = j then i else k
/-- ranges of n places from a and from b change what they hold -/
def srI (a b n k : Nat) : Nat := if a ≤ k ∧ k < a + n then k - a + b else if b ≤ k ∧ k < b + n then k - b + a else k
/-- places a to m come behind places m to b -/
def roI (a m b k : Nat) : Nat := if a ≤ k ∧ k < a + (b - m) then k - a + m else if a + (b - m) ≤ k ∧ k < b then k - (b - m) else k
def swapR (l : List α) (a b n : Nat) : List α := ixs l (srI a b n)
def rotR (l : List α) (a m b : Nat) : List α := ixs l (roI a m b)
theorem swap_set {l : List α} {i j : Nat} (hi : i < l.length) (hj : j < l.length) : (l.set i (l.getD j default)).set j (l.getD i default) = ixs l (swI i j) := by
  refine ext_getD (by simp [ixs_len]) fun k hk => ?_
  simp only [List.length_set] at hk
  rw [ixs_get _ _ hk]
  simp only [List.getD_eq_getElem?_getD, List.getElem?_set, List.length_set, swI]
  by_cases h1 : k = i
  · subst h1
    by_cases h2 : j = k
    · subst h2; simp [hi]
    · simp [h2, hi]
  · by_cases h2 : k = j
    · subst h2; simp [hj, h1]
    · simp [Ne.symm h1, Ne.symm h2, h1, h2]
theorem swapR_step {l : List α} {a b n : Nat} (hab : a + (n + 1) ≤ b) (hb : b + (n + 1) ≤ l.length) : ixs (swapR l a b n) (swI (a + n) (b + n)) = swapR l a b (n + 1) := by
  unfold swapR
  rw [ixs_ixs _ _ _ fun k hk => by unfold swI; split <;> (try split) <;> omega]
  refine ixs_congr _ fun k hk => ?_
  unfold srI swI
  repeat' split
  all_goals omega
theorem swapR_zero (l : List α) (a b : Nat) : swapR l a b 0 = l := by
  unfold swapR
  refine (ixs_congr l fun k hk => ?_).trans (ixs_id l)
  unfold srI
  repeat' split
  all_goals omega
theorem rotR_len (l : List α) (a m b : Nat) : (rotR l a m b).length = l.length := ixs_len _ _
theorem swapR_len (l : List α) (a b n : Nat) : (swapR l a b n).length = l.length := ixs_len _ _
theorem rot_left {l : List α} {a m b : Nat} (h1 : a < m) (h2 : m < b) (hb : b ≤ l.length) (h : b - m < m - a) : rotR (swapR l a m (b - m)) (a + (b - m)) m b = rotR l a m b := by
  unfold rotR swapR
  rw [ixs_ixs _ _ _ fun k hk => by unfold roI; split <;> (try split) <;> omega]
  refine ixs_congr _ fun k hk => ?_
  unfold roI srI
  repeat' split
  all_goals omega
theorem rot_right {l : List α} {a m b : Nat} (h1 : a < m) (h2 : m < b) (hb : b ≤ l.length) (h : m - a < b - m) : rotR (swapR l a (b - (m - a)) (m - a)) a m (b - (m - a)) = rotR l a m b := by
  unfold rotR swapR
  rw [ixs_ixs _ _ _ fun k hk => by unfold roI; split <;> (try split) <;> omega]
  refine ixs_congr _ fun k hk => ?_
  unfold roI srI
  repeat' split
  all_goals omega
theorem rot_same {l : List α} {a m b : Nat} (h1 : a < m) (h2 : m < b) (hb : b ≤ l.length) (h : m - a = b - m) : swapR l a m (b - m) = rotR l a m b := by
  unfold rotR swapR
  refine ixs_congr _ fun k hk => ?_
  unfold roI srI
  repeat' split
  all_goals omega
theorem rot_up {l : List α} {a k : Nat} (h1 : a ≤ k) (hb : k + 1 < l.length) : ixs (rotR l a (a + 1) (k + 1)) (swI k (k + 1)) = rotR l a (a + 1) (k + 2) := by
  unfold rotR
  rw [ixs_ixs _ _ _ fun k hk => by unfold swI; split <;> (try split) <;> omega]
  refine ixs_congr _ fun k hk => ?_
  unfold roI swI
  repeat' split
  all_goals omega
theorem rot_dn {l : List α} {m k : Nat} (h0 : 0 < k) (h1 : k ≤ m) (hb : m < l.length) : ixs (rotR l k m (m + 1)) (swI k (k - 1)) = rotR l (k - 1) m (m + 1) := by
  unfold rotR
  rw [ixs_ixs _ _ _ fun k hk => by unfold swI; split <;> (try split) <;> omega]
  refine ixs_congr _ fun k hk => ?_
  unfold roI swI
  repeat' split
  all_goals omega
theorem rot_none {l : List α} {a m b : Nat} (h : m ≤ a ∧ b ≤ a + 1 ∨ b ≤ m) (ha : a ≤ m) : rotR l a m b = l := by
  unfold rotR
  refine (ixs_congr l fun k hk => ?_).trans (ixs_id l)
  unfold roI
  repeat' split
  all_goals omega
theorem rotR_get {l : List α} {a m b k : Nat} (hk : k < l.length) : (rotR l a m b).getD k default = l.getD (roI a m b k) default := ixs_get _ _ hk
end
section
variable {α : Type} {κ : α → Int}
def ins1 (κ : α → Int) (x : α) : List α → List α
  | [] => [x]
  | y :: l => if κ x ≤ κ y then x :: y :: l else y :: ins1 κ x l
def isrt (κ : α → Int) : List α → List α
  | [] => []
  | x :: l => ins1 κ x (isrt κ l)
def SortedK (κ : α → Int) (l : List α) : Prop := l.Pairwise fun x y => κ x ≤ κ y
def SimK (κ : α → Int) (l d : List α) : Prop := ∀ c, d.filter (fun x => κ x == c) = l.filter (fun x => κ x == c)
theorem SimK.refl (l : List α) : SimK κ l l := fun _ => rfl
theorem SimK.trans {l d e : List α} (h : SimK κ l d) (h' : SimK κ d e) : SimK κ l e := fun c => (h' c).trans (h c)
theorem ins1_sorted {x : α} : ∀ {l : List α}, SortedK κ l → SortedK κ (ins1 κ x l) ∧ ∀ y, y ∈ ins1 κ x l → y = x ∨ y ∈ l := by
  intro l
  induction l with
  | nil => intro _; simp [ins1, SortedK]
  | cons y l ih =>
    intro h
    have hp := List.pairwise_cons.1 h
    unfold ins1
    split
    · rename_i hxy
      refine ⟨List.pairwise_cons.2 ⟨fun z hz => ?_, h⟩, fun z hz => by simpa using hz⟩
      rcases List.mem_cons.1 hz with rfl | hz
      · exact hxy
      · exact Int.le_trans hxy (hp.1 z hz)
    · rename_i hxy
      obtain ⟨h1, h2⟩ := ih hp.2
      refine ⟨List.pairwise_cons.2 ⟨fun z hz => ?_, h1⟩, fun z hz => ?_⟩
      · rcases h2 z hz with rfl | hz
        · omega
        · exact hp.1 z hz
      · rcases List.mem_cons.1 hz with rfl | hz
        · exact .inr List.mem_cons_self
        · rcases h2 z hz with rfl | hz
          · exact .inl rfl
          · exact .inr (List.mem_cons_of_mem _ hz)
theorem ins1_filter {x : α} (c : Int) : ∀ {l : List α}, SortedK κ l → (ins1 κ x l).filter (fun z => κ z == c) = (x :: l).filter (fun z => κ z == c) := by
  intro l
  induction l with
  | nil => intro _; rfl
  | cons y l ih =>
    intro h
    have hp := List.pairwise_cons.1 h
    unfold ins1
    split
    · rfl
    · rename_i hxy
      rw [List.filter_cons, ih hp.2]
      simp only [List.filter_cons, beq_iff_eq]
      by_cases h1 : κ x = c <;> by_cases h2 : κ y = c <;> simp [h1, h2] <;> omega
theorem isrt_sorted : ∀ (l : List α), SortedK κ (isrt κ l)
  | [] => List.Pairwise.nil
  | x :: l => (ins1_sorted (isrt_sorted l)).1
theorem isrt_sim : ∀ (l : List α), SimK κ l (isrt κ l)
  | [], _ => rfl
  | x :: l, c => by
    rw [isrt, ins1_filter c (isrt_sorted l), List.filter_cons, List.filter_cons, isrt_sim l c]
theorem sim_mem {l d : List α} (h : SimK κ l d) {x : α} : x ∈ d ↔ x ∈ l := by
  have h1 := h (κ x)
  constructor <;> intro hx
  · have : x ∈ d.filter (fun z => κ z == κ x) := List.mem_filter.2 ⟨hx, by simp⟩
    rw [h1] at this
    exact (List.mem_filter.1 this).1
  · have : x ∈ l.filter (fun z => κ z == κ x) := List.mem_filter.2 ⟨hx, by simp⟩
    rw [← h1] at this
    exact (List.mem_filter.1 this).1
/-- two sorted lists that hold the same for each key are the same -/
theorem sorted_uniq : ∀ (l d : List α), SortedK κ l → SortedK κ d → SimK κ l d → d = l := by
  intro l
  induction l with
  | nil =>
    intro d _ _ h
    cases d with
    | nil => rfl
    | cons y d => have := (sim_mem h (x := y)).1 List.mem_cons_self; cases this
  | cons x l ih =>
    intro d hl hd h
    cases d with
    | nil => have := (sim_mem h (x := x)).2 List.mem_cons_self; cases this
    | cons y d =>
      have pl := List.pairwise_cons.1 hl
      have pd := List.pairwise_cons.1 hd
      have e1 : κ x ≤ κ y := by
        rcases List.mem_cons.1 ((sim_mem h (x := y)).1 List.mem_cons_self) with e | hm
        · rw [e]; exact Int.le_refl _
        · exact pl.1 y hm
      have e2 : κ y ≤ κ x := by
        rcases List.mem_cons.1 ((sim_mem h (x := x)).2 List.mem_cons_self) with e | hm
        · rw [e]; exact Int.le_refl _
        · exact pd.1 x hm
      have hk : κ y = κ x := by omega
      have hx := h (κ x)
      simp only [List.filter_cons, hk, beq_self_eq_true, if_true, List.cons.injEq] at hx
      obtain ⟨rfl, hx⟩ := hx
      rw [ih d pl.2 pd.2 fun c => ?_]
      have := h c
      simp only [List.filter_cons] at this
      split at this
      · injection this
      · exact this
theorem isrt_uniq {l d : List α} (hd : SortedK κ d) (h : SimK κ l d) : d = isrt κ l := sorted_uniq _ _ (isrt_sorted l) hd fun c => (h c).trans (isrt_sim l c).symm
theorem isrt_len (l : List α) : (isrt κ l).length = l.length := by
  induction l with
  | nil => rfl
  | cons x l ih =>
    have : ∀ (m : List α), (ins1 κ x m).length = m.length + 1 := by
      intro m
      induction m with
      | nil => rfl
      | cons y m ihm => unfold ins1; split <;> simp [ihm]
    rw [isrt, this, ih]; rfl
end
section
variable {α : Type} [Inhabited α] {κ : α → Int}
/-! sorted by the key; the same lists for each key -/
def SrtIn (κ : α → Int) (l : List α) (a b : Nat) : Prop := ∀ i j, a ≤ i → i ≤ j → j < b → κ (l.getD i default) ≤ κ (l.getD j default)
def seg (l : List α) (a b : Nat) : List α := (l.drop a).take (b - a)
theorem seg_len {l : List α} {a b : Nat} (h : b ≤ l.length) : (seg l a b).length = b - a := by simp [seg]; omega
theorem seg_get {l : List α} {a b k : Nat} (h : k < b - a) : (seg l a b).getD k default = l.getD (a + k) default := by
  simp [seg, List.getD_eq_getElem?_getD, h, List.getElem?_drop]
theorem cut_at (l : List α) {a b : Nat} (hab : a ≤ b) : l = l.take a ++ (seg l a b ++ l.drop b) := by
  have h : (l.drop a).drop (b - a) = l.drop b := by rw [List.drop_drop]; congr 1; omega
  rw [seg, ← h, List.take_append_drop, List.take_append_drop]
theorem srt_seg {l : List α} {a b : Nat} (hb : b ≤ l.length) : SortedK κ (seg l a b) ↔ SrtIn κ l a b := by
  unfold SortedK SrtIn
  rw [List.pairwise_iff_getElem]
  have hl := seg_len (l := l) (a := a) hb
  have hg : ∀ (i : Nat) (hi : i < (seg l a b).length), (seg l a b)[i] = l.getD (a + i) default := fun i hi => by
    rw [← seg_get (b := b) (by omega)]
    simp [List.getD_eq_getElem?_getD, hi]
  constructor
  · intro h i j hi hij hj
    rcases Nat.lt_or_ge i j with h1 | h1
    · have := h (i - a) (j - a) (by omega) (by omega) (by omega)
      rw [hg, hg] at this
      rw [show a + (i - a) = i by omega, show a + (j - a) = j by omega] at this
      exact this
    · have : i = j := by omega
      subst this; exact Int.le_refl _
  · intro h i j hi hj hij
    rw [hg, hg]
    exact h _ _ (by omega) (by omega) (by omega)
def sortR (κ : α → Int) (a b : Nat) (l : List α) : List α := l.take a ++ (isrt κ (seg l a b) ++ l.drop b)
theorem sortR_len {l : List α} {a b : Nat} (hab : a ≤ b) (hb : b ≤ l.length) : (sortR κ a b l).length = l.length := by
  simp only [sortR, List.length_append, List.length_take, List.length_drop, isrt_len, seg_len hb]; omega
theorem sortR_out {l : List α} {a b k : Nat} (hab : a ≤ b) (hb : b ≤ l.length) (h : k < a ∨ b ≤ k) : (sortR κ a b l).getD k default = l.getD k default := by
  simp only [sortR, List.getD_eq_getElem?_getD]
  rcases h with h | h
  · rw [List.getElem?_append_left (by simp; omega)]; simp [h]
  · rw [List.getElem?_append_right (by simp; omega), List.getElem?_append_right (by simp [isrt_len, seg_len hb]; omega)]
    simp only [isrt_len, seg_len hb, List.length_take, List.getElem?_drop]
    congr 2; omega
theorem sortR_seg {l : List α} {a b : Nat} (hab : a ≤ b) (hb : b ≤ l.length) : seg (sortR κ a b l) a b = isrt κ (seg l a b) := by
  have h1 : (l.take a).length = a := by simp; omega
  have h2 : (isrt κ (seg l a b)).length = b - a := by rw [isrt_len, seg_len hb]
  rw [seg, sortR, List.drop_append_of_le_length (by omega), List.drop_of_length_le (by omega), List.nil_append, List.take_append_of_le_length (by omega), List.take_of_length_le (by omega)]
theorem sortR_srt {l : List α} {a b : Nat} (hab : a ≤ b) (hb : b ≤ l.length) : SrtIn κ (sortR κ a b l) a b := by
  rw [← srt_seg (by rw [sortR_len hab hb]; exact hb), sortR_seg hab hb]
  exact isrt_sorted _
theorem sortR_sim {l : List α} {a b : Nat} (hab : a ≤ b) : SimK κ l (sortR κ a b l) := by
  intro c
  conv => rhs; rw [cut_at l hab]
  simp only [sortR, List.filter_append]
  rw [isrt_sim]
theorem sortR_in {l : List α} {a b k : Nat} (hab : a ≤ b) (hb : b ≤ l.length) (h1 : a ≤ k) (h2 : k < b) : ∃ k', a ≤ k' ∧ k' < b ∧ (sortR κ a b l).getD k default = l.getD k' default := by
  have hs := sortR_seg (κ := κ) hab hb
  have hm : (sortR κ a b l).getD k default ∈ seg l a b := by
    have e : (sortR κ a b l).getD k default = (seg (sortR κ a b l) a b).getD (k - a) default := by rw [seg_get (by omega)]; congr 1; omega
    rw [e, hs, ← sim_mem (isrt_sim (κ := κ) (seg l a b))]
    have hl : k - a < (isrt κ (seg l a b)).length := by rw [isrt_len, seg_len hb]; omega
    have : isrt κ (isrt κ (seg l a b)) = isrt κ (seg l a b) := (isrt_uniq (isrt_sorted _) (SimK.refl _)).symm
    rw [← this]
    rw [this]
    rw [sim_mem (isrt_sim (κ := κ) (seg l a b))]
    rw [← sim_mem (isrt_sim (κ := κ) (seg l a b))]
    rw [List.getD_eq_getElem?_getD, List.getElem?_eq_getElem hl]
    exact List.getElem_mem hl
  obtain ⟨i, hi, he⟩ := List.getElem_of_mem hm
  rw [seg_len hb] at hi
  refine ⟨a + i, by omega, by omega, ?_⟩
  rw [← seg_get hi, ← he]
  simp [List.getD_eq_getElem?_getD, seg_len hb, hi]
theorem sortR_uniq {l d : List α} {a b : Nat} (hab : a ≤ b) (hb : b ≤ l.length) (hl : d.length = l.length) (ho : ∀ k, k < l.length → k < a ∨ b ≤ k → d.getD k default = l.getD k default) (hs : SrtIn κ d a b) (hm : SimK κ l d) : d = sortR κ a b l := by
  have e1 : d.take a = l.take a := by
    refine ext_getD (by simp [hl]) fun k hk => ?_
    have h1 : k < a := by simp at hk; omega
    have := ho k (by simp at hk; omega) (.inl h1)
    simpa [List.getD_eq_getElem?_getD, h1] using this
  have e2 : d.drop b = l.drop b := by
    refine ext_getD (by simp [hl]) fun k hk => ?_
    have h1 : b + k < l.length := by simp [hl] at hk; omega
    have := ho (b + k) h1 (.inr (by omega))
    simpa [List.getD_eq_getElem?_getD, List.getElem?_drop] using this
  have e3 : seg d a b = isrt κ (seg l a b) := by
    refine isrt_uniq ((srt_seg (by omega)).2 hs) fun c => ?_
    have h1 := hm c
    rw [cut_at d hab, cut_at l hab, e1, e2] at h1
    simp only [List.filter_append] at h1
    exact List.append_cancel_right (List.append_cancel_left h1)
  conv => lhs; rw [cut_at d hab, e1, e2, e3]
  rfl
theorem sortR_one {l : List α} {a b : Nat} (hab : a ≤ b) (h : b ≤ a + 1) (hb : b ≤ l.length) : sortR κ a b l = l := by
  refine (sortR_uniq hab hb rfl (fun _ _ _ => rfl) (fun i j h1 h2 h3 => ?_) (SimK.refl l)).symm
  have : i = j := by omega
  subst this; exact Int.le_refl _
theorem rot_list {l : List α} {a m b : Nat} (h1 : a ≤ m) (h2 : m ≤ b) (hb : b ≤ l.length) : rotR l a m b = l.take a ++ (seg l m b ++ (seg l a m ++ l.drop b)) := by
  have q1 := seg_len (l := l) (a := a) (b := m) (by omega)
  have q2 := seg_len (l := l) (a := m) hb
  have q0 : (l.take a).length = a := by simp; omega
  refine ext_getD ?_ fun k hk => ?_
  · rw [rotR_len]; simp only [List.length_append, q1, q2, q0, List.length_drop]; omega
  · rw [rotR_len] at hk
    rw [rotR_get hk]
    simp only [List.getD_eq_getElem?_getD]
    by_cases c1 : k < a
    · rw [List.getElem?_append_left (by omega)]
      simp only [List.getElem?_take, c1, if_true, roI]
      rw [if_neg (by omega), if_neg (by omega)]
    · rw [List.getElem?_append_right (by omega), q0]
      by_cases c2 : k < a + (b - m)
      · rw [List.getElem?_append_left (by omega)]
        simp only [seg, List.getElem?_take, List.getElem?_drop, roI]
        rw [if_pos (by omega), if_pos (by omega)]
        congr 2; omega
      · rw [List.getElem?_append_right (by omega), q2]
        by_cases c3 : k < b
        · rw [List.getElem?_append_left (by omega)]
          simp only [seg, List.getElem?_take, List.getElem?_drop, roI]
          rw [if_neg (by omega), if_pos (by omega), if_pos (by omega)]
          congr 2; omega
        · rw [List.getElem?_append_right (by omega), q1]
          simp only [List.getElem?_drop, roI]
          rw [if_neg (by omega), if_neg (by omega)]
          congr 2; omega
theorem rot_sim {l : List α} {a m b : Nat} (h1 : a ≤ m) (h2 : m ≤ b) (hb : b ≤ l.length) (hk : ∀ i j, a ≤ i → i < m → m ≤ j → j < b → κ (l.getD j default) < κ (l.getD i default)) : SimK κ l (rotR l a m b) := by
  intro c
  rw [rot_list h1 h2 hb]
  have e : l = l.take a ++ (seg l a m ++ (seg l m b ++ l.drop b)) := by
    conv => lhs; rw [cut_at l h1]
    congr 2
    have h3 : (l.drop m).drop (b - m) = l.drop b := by rw [List.drop_drop]; congr 1; omega
    rw [seg, ← h3, List.take_append_drop]
  conv => rhs; rw [e]
  simp only [List.filter_append]
  congr 1
  rw [← List.append_assoc, ← List.append_assoc]
  congr 1
  -- one of the two is empty
  by_cases hA : (seg l a m).filter (fun x => κ x == c) = []
  · rw [hA]; simp
  · have hB : (seg l m b).filter (fun x => κ x == c) = [] := by
      refine List.filter_eq_nil_iff.2 fun y hy hc => ?_
      obtain ⟨x, hx⟩ := List.exists_mem_of_ne_nil _ hA
      obtain ⟨hx1, hx2⟩ := List.mem_filter.1 hx
      obtain ⟨i, hi, hie⟩ := List.getElem_of_mem hx1
      obtain ⟨j, hj, hje⟩ := List.getElem_of_mem hy
      rw [seg_len (by omega)] at hi
      rw [seg_len hb] at hj
      have e1 : l.getD (a + i) default = x := by rw [← seg_get hi, ← hie]; simp [List.getD_eq_getElem?_getD, seg_len (l := l) (a := a) (b := m) (by omega), hi]
      have e2 : l.getD (m + j) default = y := by rw [← seg_get hj, ← hje]; simp [List.getD_eq_getElem?_getD, seg_len (l := l) (a := m) hb, hj]
      have := hk (a + i) (m + j) (by omega) (by omega) (by omega) (by omega)
      rw [e1, e2] at this
      simp only [beq_iff_eq] at hx2 hc
      omega
    rw [hB]; simp
end
end Go.D
