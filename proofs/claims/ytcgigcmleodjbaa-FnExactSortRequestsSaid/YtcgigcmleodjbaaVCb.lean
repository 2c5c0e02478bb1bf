/-
  Typed contents as plain contents.
-/
import Derived.Test.YtcgigcmleodjbaaVCa
namespace Go.D
set_option linter.unusedVariables false
def cell (t : Ty) (xs : List (El t)) (i j : Nat) : FC := (enc t (xs.getD i default)).getD j .nl
def fcCd : Nat → FC → C
  | _, .val u => .val u
  | _, .nl => .nl
  | 0, .l _ _ => .nl
  | d + 1, .l t xs => .sl t.width xs.length (fun i j => fcCd d (cell t xs i j))
def fcC (c : FC) : C := fcCd 8 c
theorem rank_le (t : Ty) : t.rank ≤ 6 := by cases t <;> decide
theorem cell_rank (t : Ty) (xs : List (El t)) (i j : Nat) : (cell t xs i j).rank ≤ t.rank := by
  unfold cell
  have h := enc_rank t (xs.getD i default)
  generalize enc t (xs.getD i default) = l at h
  rw [List.all_eq_true] at h
  rw [List.getD_eq_getElem?_getD]
  cases hq : l[j]? with
  | none => exact Nat.zero_le _
  | some c => simpa using h c (List.mem_of_getElem? hq)
theorem fcCd_same : ∀ (d e : Nat) (c : FC), c.rank ≤ d → c.rank ≤ e → fcCd d c = fcCd e c := by
  intro d
  induction d with
  | zero =>
    intro e c h1 h2
    cases c with
    | val u => cases e <;> rfl
    | nl => cases e <;> rfl
    | l t xs => simp [FC.rank] at h1
  | succ d ih =>
    intro e c h1 h2
    cases c with
    | val u => cases e <;> rfl
    | nl => cases e <;> rfl
    | l t xs =>
      cases e with
      | zero => simp [FC.rank] at h2
      | succ e =>
        simp only [FC.rank] at h1 h2
        simp only [fcCd]
        congr 1
        funext i j
        have := cell_rank t xs i j
        exact ih e _ (by omega) (by omega)
theorem fcC_l (t : Ty) (xs : List (El t)) : fcC (.l t xs) = .sl t.width xs.length (fun i j => fcC (cell t xs i j)) := by
  unfold fcC
  conv => lhs; unfold fcCd
  congr 1
  funext i j
  have h1 := cell_rank t xs i j
  have h2 := rank_le t
  exact fcCd_same 7 8 _ (by omega) (by omega)
@[simp] theorem fcC_val (u : Value) : fcC (.val u) = .val u := rfl
@[simp] theorem fcC_nl : fcC .nl = .nl := rfl
theorem fcLe.le {c d : FC} (h : fcLe c d) : D.le (fcC c) (fcC d) := by
  rcases h with rfl | ⟨rfl, t, rfl⟩
  · exact le.refl _
  · rw [fcC_l]
    exact .inr ⟨_, _, rfl⟩
theorem fcLe.refl (c : FC) : fcLe c c := .inl rfl
theorem FcsLe.get {cs ds : List FC} (h : FcsLe cs ds) : cs.length = ds.length ∧ ∀ j, fcLe (cs.getD j .nl) (ds.getD j .nl) := by
  induction h with
  | nil => exact ⟨rfl, fun j => by simpa using fcLe.refl _⟩
  | cons h1 h2 ih =>
    refine ⟨by simp [ih.1], fun j => ?_⟩
    cases j with
    | zero => simpa using h1
    | succ j => simpa using ih.2 j
/-- rows of cells become rows of elements -/
theorem cell_get {t : Ty} {xs : List (El t)} {i : Nat} {x : El t} (h : xs[i]? = some x) (j : Nat) : cell t xs i j = (enc t x).getD j .nl := by
  simp [cell, List.getD_eq_getElem?_getD, h]
theorem cell_append_left {t : Ty} {xs ys : List (El t)} {i j : Nat} (h : i < xs.length) : cell t (xs ++ ys) i j = cell t xs i j := by
  simp [cell, List.getD_eq_getElem?_getD, List.getElem?_append_left h]
theorem cell_append_right {t : Ty} {xs ys : List (El t)} {i j : Nat} (h : xs.length ≤ i) : cell t (xs ++ ys) i j = cell t ys (i - xs.length) j := by
  simp [cell, List.getD_eq_getElem?_getD, List.getElem?_append_right h]
def cut {α : Type} (xs : List α) (lo n : Nat) : List α := (xs.drop lo).take n
theorem cell_cut {t : Ty} {xs : List (El t)} {lo n i j : Nat} (h : i < n) : cell t (cut xs lo n) i j = cell t xs (lo + i) j := by
  simp [cell, cut, List.getD_eq_getElem?_getD, h, List.getElem?_drop]
theorem len_cut {α : Type} {xs : List α} {lo n : Nat} (h : lo + n ≤ xs.length) : (cut xs lo n).length = n := by
  simp [cut]; omega
def FC.isVal : FC → Bool
  | .val _ => true
  | _ => false
theorem enc_flat (t : Ty) (h : flatTy t = true) (x : El t) : (enc t x).all FC.isVal = true := by
  cases t <;> first | rfl | exact absurd h (by decide)
theorem cell_flat {t : Ty} (h : flatTy t = true) (xs : List (El t)) (i j : Nat) (hj : j < t.width) : ∃ u, cell t xs i j = .val u := by
  unfold cell
  have h1 := enc_flat t h (xs.getD i default)
  have h2 := enc_len t (xs.getD i default)
  generalize enc t (xs.getD i default) = l at h1 h2
  rw [List.all_eq_true] at h1
  have hlt : j < l.length := by omega
  have h3 := h1 l[j] (List.getElem_mem hlt)
  rw [List.getD_eq_getElem?_getD, List.getElem?_eq_getElem hlt, Option.getD_some]
  generalize l[j] = c at h3
  cases c with
  | val u => exact ⟨u, rfl⟩
  | nl => simp [FC.isVal] at h3
  | l t xs => simp [FC.isVal] at h3
/-- some cells of an element, told anew -/
def splice (cs : List FC) (off : Nat) (us : List FC) : List FC := cs.take off ++ us ++ cs.drop (off + us.length)
def upd (t : Ty) (off : Nat) (us : List FC) (x : El t) : El t := (dec t (splice (enc t x) off us)).getD x
theorem upd_ok {t : Ty} {off : Nat} {us : List FC} {x : El t} (h : (dec t (splice (enc t x) off us)).isSome = true) : FcsLe (splice (enc t x) off us) (enc t (upd t off us x)) := by
  obtain ⟨y, hy⟩ := Option.isSome_iff_exists.1 h
  simp only [upd, hy, Option.getD_some]
  exact dec_ok t _ _ hy
theorem getD_splice {cs us : List FC} {off j : Nat} (h : off + us.length ≤ cs.length) : (splice cs off us).getD j .nl = if off ≤ j ∧ j < off + us.length then us.getD (j - off) .nl else cs.getD j .nl := by
  simp only [splice, List.getD_eq_getElem?_getD, List.append_assoc]
  by_cases h1 : j < off
  · rw [List.getElem?_append_left (by simp; omega), if_neg (by omega)]
    simp [h1]
  · have e1 : (cs.take off).length = off := by simp; omega
    rw [List.getElem?_append_right (by omega), e1]
    by_cases h2 : j < off + us.length
    · rw [if_pos ⟨by omega, h2⟩, List.getElem?_append_left (by omega)]
    · rw [if_neg (by omega), List.getElem?_append_right (by omega), List.getElem?_drop]
      congr 2
      omega
theorem cell_modify {t : Ty} {xs : List (El t)} {e i j : Nat} {g : El t → El t} (h : e < xs.length) : cell t (xs.modify e g) i j = if i = e then (enc t (g (xs.getD e default))).getD j .nl else cell t xs i j := by
  simp only [cell, List.getD_eq_getElem?_getD, List.getElem?_modify]
  by_cases hi : i = e
  · subst hi
    simp [h]
  · simp [hi, Ne.symm hi]
end Go.D
